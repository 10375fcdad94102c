/- Walks: FullArray of both sides. -/
import Derived.Test.YtonmggppfopidaaFull
namespace Go.Proofs.Ytonmggppfopidaa
set_option linter.unusedSimpArgs false
set_option linter.unusedVariables false
open Go.RowKit

theorem MakesA.no {w w' : World} {A : AV} {c c' : Int} {L : List Ent} (hA : A = noA) (hc : c = c') (h : St w.heap.size w w' L) :
    MakesA w A c (.returned (.tuple #[.agg #[.int .i64 0, .int .i64 0, .slice none 0 0], .int .i64 c'])) w' := by
  subst hA; subst hc
  exact ⟨.slice none 0 0, [], rfl, rfl, (h.out).nilrow _⟩
theorem MakesA.yes {w w' : World} {A : AV} {c c' : Int} {lv co : Int} {v : Value} {us : List Value} {xss : List (List Int)} {L : List Ent} (hA : A = ⟨lv, co, xss⟩) (hc : c = c') (hl : us.length = xss.length) (hs : (own2 v us xss).Sublist L) (h : St w.heap.size w w' L) :
    MakesA w A c (.returned (.tuple #[.agg #[.int .i64 lv, .int .i64 co, v], .int .i64 c'])) w' := by
  subst hA; subst hc
  exact ⟨v, us, rfl, hl, h.sub hs⟩

set_option maxHeartbeats 4000000 in
set_option maxRecDepth 100000 in
theorem FullArray_c (lv co : Int) (w : World) : Calls Try.prog 48 #[.int .i64 lv, .int .i64 co] w (MakesA w (fullA lv co) (fullC lv co)) := by
  have hS0 := (St.refl w).newboxF 45 #[.int .i64 0, .int .i64 0, .slice none 0 0]
  have b0 := hS0.bcell 0 rfl 0 rfl
  have b1 := hS0.bcell 0 rfl 1 rfl
  have b2 := hS0.bcell 0 rfl 2 rfl
  by_cases hs : shapeB lv co = true
  · obtain ⟨h1, h2, h3, h4⟩ := shapeB_t hs
    have Hs := Lib.hid hs; clear hs
    by_cases hp : pu lv 256 co.toNat 1 > 256
    · go_enter Try.func48, Try.ntmps48
      go_wp2_with fail
      refine (isShape_c lv co _).mono ?_
      rw [Hs.out]
      rintro e w1 ⟨rfl, rfl⟩
      go_wp2_with fail
      refine (powerUpTo_c lv co 256 _ h1 (by omega) (by omega) (by omega) (by omega) (by omega)).mono ?_
      rintro e w1 ⟨rfl, rfl⟩
      go_wp2_with fail
      refine bodyPost_ret (v := .tuple #[.agg #[.int .i64 0, .int .i64 0, .slice none 0 0], .int .i64 5]) (by simp [results, Try.results48, go_sem, b0, b1, b2]) rfl ?_
      exact MakesA.no (by rw [fullA, if_pos Hs.out, if_pos hp]) (by rw [fullC, if_pos Hs.out, if_pos hp]) hS0
    · have hp0 : 0 ≤ pu lv 256 co.toNat 1 := by
        have := pu_pos (base := lv) (lim := 256) (by omega) co.toNat (p := 1) (by omega); omega
      obtain ⟨n, hn⟩ : ∃ n : Nat, pu lv 256 co.toNat 1 = n := ⟨(pu lv 256 co.toNat 1).toNat, by omega⟩
      have Hn := Lib.hid hn
      have hn2 : n ≤ 256 := by omega
      obtain ⟨m, rfl⟩ : ∃ m : Nat, co = m := ⟨co.toNat, by omega⟩
      have Hp := Lib.hid hp; clear hp hp0 hn
      go_enter Try.func48, Try.ntmps48
      go_wp2_with fail
      refine (isShape_c lv m _).mono ?_
      rw [Hs.out]
      rintro e w1 ⟨rfl, rfl⟩
      go_wp2_with fail
      refine (powerUpTo_c lv m 256 _ h1 (by omega) (by omega) (by omega) (by omega) (by omega)).mono ?_
      rw [Hn.out]
      rintro e w1 ⟨rfl, rfl⟩
      have hS1 := (hS0.newboxF 45 #[.int .i64 lv, .int .i64 m, .slice none 0 0]).nilrow 25
      simp only [World.size_alloc, List.cons_append, List.nil_append] at hS1
      clear b0 b1 b2
      go_wp2_with fail
      go_loopw [24] (fun i wr => ∃ (k : Nat) (a : Option Addr) (c : Nat) (us : List Value), k ≤ n ∧ i = .int .i64 k ∧ Hid (us.length = k) ∧ St w.heap.size w wr (box 45 (w.heap.size + 1) [.int .i64 lv, .int .i64 m, .slice a k c] :: box 45 w.heap.size [.int .i64 0, .int .i64 0, .slice none 0 0] :: own2 (.slice a k c) us (fullRows lv m k))) (fun i _ => n - (intOf i).toNat)
      case atStart => exact ⟨0, none, 0, [], by omega, rfl, rfl, hS1⟩
      case round =>
        obtain ⟨k, a, c, us, hk, rfl, hl, hS⟩ := hrel
        by_cases hlt : k < n
        · have b2 := hS.bcell 0 rfl 2 rfl
          have b2' := hS.drew.bcell 0 rfl 2 rfl
          go_wp2_with fail
          go_region_law (first
            | (refine stepII hS3 2 rfl (by rw [hl.out]; omega) rfl (.tmp 28) (.tmp 33) rfl (by simp [Act.eval, Act.put]) _ hsl.one (by simp [Act.eval, Act.put]) ?_; intro v' w4 hS4; obtain ⟨va, vc, hv'⟩ := (hS4.rd 2 rfl).sl.sh; rw [List.length_append, hl.out, List.length_singleton] at hv'; subst hv'; have d2 := hS4.bcell 0 rfl 2 rfl; have f2 := hS4.bfree 0 rfl 2)
            | (go_simp; go_at_call 99; refine (highFirst_c k lv m _ (by omega) (by omega) (by omega) (by omega) (by omega)).mono ?_; rintro e w3 ⟨u, rfl, h3⟩; have hsl := (h3.rdI 0 rfl).sl; obtain ⟨ua, uc, hu⟩ := hsl.sh; rw [iv_len, digs_len] at hu; subst hu; have hS3 := hS.drew.call h3; have b3 := hS3.bcell 0 rfl 2 rfl; have d3 := (hS3.alloc' (.cells #[.slice ua m uc] 25)).bcell 0 rfl 2 rfl))
          all_goals
            go_wp2_with fail
            go_roundw
            case rel =>
              refine ⟨k + 1, va, vc, us ++ [.slice ua m uc], by omega, by go_num, by simp [Hid, hl.out], ?_⟩
              rw [fullRows_succ, own2, rowsI_app (by rw [hl.out, fullRows_len])]
              exact hS4.bstore 0 rfl 2 _
            case measure => simp [intOf]; omega
        · obtain rfl : k = n := by omega
          have b0 := hS.bcell 0 rfl 0 rfl
          have b1 := hS.bcell 0 rfl 1 rfl
          have b2 := hS.bcell 0 rfl 2 rfl
          have c0 := hS.bcell 1 rfl 0 rfl
          have c1 := hS.bcell 1 rfl 1 rfl
          have c2 := hS.bcell 1 rfl 2 rfl
          have f1 := hS.bfree 1 rfl
          go_wp2_with fail
          have hS9 := ((hS.bstore 1 rfl 0 (.int .i64 lv)).bstore 1 rfl 1 (.int .i64 m)).bstore 1 rfl 2 (.slice a k c)
          refine bodyPost_ret (v := .tuple #[.agg #[.int .i64 lv, .int .i64 m, .slice a k c], .int .i64 0]) (by simp [results, Try.results48, go_sem, c0, c1, c2]) rfl ?_
          have hp := Hp.out
          rw [Hn.out] at hp
          exact MakesA.yes (by rw [fullA, if_pos Hs.out, Hn.out, if_neg (by omega)]; simp) (by rw [fullC, if_pos Hs.out, Hn.out, if_neg (by omega)]) (by rw [hl.out, fullRows_len]) (((List.Sublist.refl _).cons _).cons _) hS9
  · have Hs := Lib.hid (show shapeB lv co = false by simpa using hs); clear hs
    go_enter Try.func48, Try.ntmps48
    go_wp2_with fail
    refine (isShape_c lv co _).mono ?_
    rw [Hs.out]
    rintro e w1 ⟨rfl, rfl⟩
    go_wp2_with fail
    refine bodyPost_ret (v := .tuple #[.agg #[.int .i64 0, .int .i64 0, .slice none 0 0], .int .i64 2]) (by simp [results, Try.results48, go_sem, b0, b1, b2]) rfl ?_
    exact MakesA.no (by rw [fullA, if_neg (by rw [Hs.out]; simp)]) (by rw [fullC, if_neg (by rw [Hs.out]; simp)]) hS0
set_option maxHeartbeats 4000000 in
set_option maxRecDepth 100000 in
theorem sFullArray_c (lv co : Int) (w : World) : Calls Try.prog 47 #[.int .i64 lv, .int .i64 co] w (MakesA w (fullA lv co) (fullC lv co)) := by
  have hS0 := (St.refl w).newboxF 45 #[.int .i64 0, .int .i64 0, .slice none 0 0]
  have b0 := hS0.bcell 0 rfl 0 rfl
  have b1 := hS0.bcell 0 rfl 1 rfl
  have b2 := hS0.bcell 0 rfl 2 rfl
  by_cases hs : shapeB lv co = true
  · obtain ⟨h1, h2, h3, h4⟩ := shapeB_t hs
    have Hs := Lib.hid hs; clear hs
    by_cases hp : pu lv 256 co.toNat 1 > 256
    · go_enter Try.func47, Try.ntmps47
      go_wp2_with fail
      refine (l16Shape_c lv co _).mono ?_
      rw [Hs.out]
      rintro e w1 ⟨rfl, rfl⟩
      go_wp2_with fail
      refine (l16Count_c lv co _ h1 (by omega) (by omega) (by omega)).mono ?_
      rw [cnt_pu _ _ (by omega), if_pos hp]
      rintro e w1 ⟨rfl, rfl⟩
      go_wp2_with fail
      refine bodyPost_ret (v := .tuple #[.agg #[.int .i64 0, .int .i64 0, .slice none 0 0], .int .i64 5]) (by simp [results, Try.results47, go_sem, b0, b1, b2]) rfl ?_
      exact MakesA.no (by rw [fullA, if_pos Hs.out, if_pos hp]) (by rw [fullC, if_pos Hs.out, if_pos hp]) hS0
    · have hp0 : 0 ≤ pu lv 256 co.toNat 1 := by
        have := pu_pos (base := lv) (lim := 256) (by omega) co.toNat (p := 1) (by omega); omega
      obtain ⟨n, hn⟩ : ∃ n : Nat, pu lv 256 co.toNat 1 = n := ⟨(pu lv 256 co.toNat 1).toNat, by omega⟩
      have Hn := Lib.hid hn
      have hn2 : n ≤ 256 := by omega
      obtain ⟨m, rfl⟩ : ∃ m : Nat, co = m := ⟨co.toNat, by omega⟩
      have Hp := Lib.hid hp; clear hp hp0 hn
      go_enter Try.func47, Try.ntmps47
      go_wp2_with fail
      refine (l16Shape_c lv m _).mono ?_
      rw [Hs.out]
      rintro e w1 ⟨rfl, rfl⟩
      go_wp2_with fail
      refine (l16Count_c lv m _ h1 (by omega) (by omega) (by omega)).mono ?_
      rw [cnt_pu _ _ (by omega), if_neg (by have := Hp.out; omega), Hn.out]
      rintro e w1 ⟨rfl, rfl⟩
      have hS1 := (hS0.new 25 #[] (by simp)).newboxF 45 #[.int .i64 lv, .int .i64 m, .slice (some ⟨w.heap.size + 1, 0, none⟩) 0 0]
      simp only [World.size_alloc, List.cons_append, List.nil_append] at hS1
      clear b0 b1 b2
      go_wp2_with fail
      go_loopw [8] (fun i wr => ∃ (k : Nat) (a : Option Addr) (c : Nat) (us : List Value), k ≤ n ∧ i = .int .i64 k ∧ Hid (us.length = k) ∧ St w.heap.size w wr (box 45 (w.heap.size + 2) [.int .i64 lv, .int .i64 m, .slice a k c] :: box 45 w.heap.size [.int .i64 0, .int .i64 0, .slice none 0 0] :: own2 (.slice a k c) us (fullRows lv m k))) (fun i _ => n - (intOf i).toNat)
      case atStart => exact ⟨0, _, 0, [], by omega, rfl, rfl, hS1⟩
      case round =>
        obtain ⟨k, a, c, us, hk, rfl, hl, hS⟩ := hrel
        by_cases hlt : k < n
        · have b2 := hS.bcell 0 rfl 2 rfl
          have b2' := hS.drew.bcell 0 rfl 2 rfl
          go_wp2_with fail
          go_region_law (first
            | (refine stepII hS3 2 rfl (by rw [hl.out]; omega) rfl (.tmp 30) (.tmp 35) rfl (by simp [Act.eval, Act.put]) _ hsl.one (by simp [Act.eval, Act.put]) ?_; intro v' w4 hS4; obtain ⟨va, vc, hv'⟩ := (hS4.rd 2 rfl).sl.sh; rw [List.length_append, hl.out, List.length_singleton] at hv'; subst hv'; have d2 := hS4.bcell 0 rfl 2 rfl; have f2 := hS4.bfree 0 rfl 2)
            | (go_simp; go_at_call 97; refine (l16Digits_c k lv m _ (by omega) (by omega) (by omega) (by omega) (by omega)).mono ?_; rintro e w3 ⟨u, rfl, h3⟩; have hsl := (h3.rdI 0 rfl).sl; obtain ⟨ua, uc, hu⟩ := hsl.sh; rw [iv_len, digs_len] at hu; subst hu; have hS3 := hS.drew.call h3; have b3 := hS3.bcell 0 rfl 2 rfl; have d3 := (hS3.alloc' (.cells #[.slice ua m uc] 25)).bcell 0 rfl 2 rfl))
          all_goals
            go_wp2_with fail
            go_roundw
            case rel =>
              refine ⟨k + 1, va, vc, us ++ [.slice ua m uc], by omega, by go_num, by simp [Hid, hl.out], ?_⟩
              rw [fullRows_succ, own2, rowsI_app (by rw [hl.out, fullRows_len])]
              exact hS4.bstore 0 rfl 2 _
            case measure => simp [intOf]; omega
        · obtain rfl : k = n := by omega
          have b0 := hS.bcell 0 rfl 0 rfl
          have b1 := hS.bcell 0 rfl 1 rfl
          have b2 := hS.bcell 0 rfl 2 rfl
          have c0 := hS.bcell 1 rfl 0 rfl
          have c1 := hS.bcell 1 rfl 1 rfl
          have c2 := hS.bcell 1 rfl 2 rfl
          have f1 := hS.bfree 1 rfl
          go_wp2_with fail
          have hS9 := ((hS.bstore 1 rfl 0 (.int .i64 lv)).bstore 1 rfl 1 (.int .i64 m)).bstore 1 rfl 2 (.slice a k c)
          refine bodyPost_ret (v := .tuple #[.agg #[.int .i64 lv, .int .i64 m, .slice a k c], .int .i64 0]) (by simp [results, Try.results47, go_sem, c0, c1, c2]) rfl ?_
          have hp := Hp.out
          rw [Hn.out] at hp
          exact MakesA.yes (by rw [fullA, if_pos Hs.out, Hn.out, if_neg (by omega)]; simp) (by rw [fullC, if_pos Hs.out, Hn.out, if_neg (by omega)]) (by rw [hl.out, fullRows_len]) (((List.Sublist.refl _).cons _).cons _) hS9
  · have Hs := Lib.hid (show shapeB lv co = false by simpa using hs); clear hs
    go_enter Try.func47, Try.ntmps47
    go_wp2_with fail
    refine (l16Shape_c lv co _).mono ?_
    rw [Hs.out]
    rintro e w1 ⟨rfl, rfl⟩
    go_wp2_with fail
    refine bodyPost_ret (v := .tuple #[.agg #[.int .i64 0, .int .i64 0, .slice none 0 0], .int .i64 2]) (by simp [results, Try.results47, go_sem, b0, b1, b2]) rfl ?_
    exact MakesA.no (by rw [fullA, if_neg (by rw [Hs.out]; simp)]) (by rw [fullC, if_neg (by rw [Hs.out]; simp)]) hS0
end Go.Proofs.Ytonmggppfopidaa
