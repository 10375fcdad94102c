/- Walks: MakeField of both sides, and values of polynomials. -/
import Derived.Test.YtpfgbbbjldpnnaaFx
import Derived.Test.YtpfgbbbjldpnnaaMul
import Derived.Test.YtpfgbbbjldpnnaaSum
import Derived.Test.YtpfgbbbjldpnnaaPFok
import Derived.Test.YtpfgbbbjldpnnaaPSpan
import Derived.Test.YtpfgbbbjldpnnaaDot
namespace Go.Proofs.Ytpfgbbbjldpnnaa
set_option linter.unusedSimpArgs false
set_option linter.unusedVariables false
open Go.RowKit
attribute [local go_sem ↓] Go.wp_at_zero Go.wp_at_succ

def mkfP (q : Int) : Int := if mkOk q = true then ((spl q.toNat).1 : Nat) else 0
def mkfD (q : Int) : Int := if mkOk q = true then ((spl q.toNat).2 : Nat) else 0
def mkfL (q : Int) : List Int := if mkOk q = true then mkF q.toNat else []
def mkfC (q : Int) : Int := if mkOk q = true then 0 else 2
/-- a field and a code -/
def MakesFC (w : World) (p d : Int) (xs : List Int) (c : Int) (e : Ending) (w' : World) : Prop := ∃ v, e = .returned (.tuple #[fv p d v, .int .i64 c]) ∧ St w.heap.size w w' [row 2 v (iv xs)]
theorem MakesFC.no {w w' : World} {q : Int} {L : List Ent} (hm : mkOk q = false) (h : St w.heap.size w w' L) :
    MakesFC w (mkfP q) (mkfD q) (mkfL q) (mkfC q) (.returned (.tuple #[.agg #[.int .i64 0, .int .i64 0, .slice none 0 0], .int .i64 2])) w' := by
  refine ⟨.slice none 0 0, by simp [mkfP, mkfD, mkfC, hm, fv], ?_⟩
  rw [mkfL, hm]; exact h.out.newnil _
theorem pp_small {q : Nat} (h2 : 2 ≤ q) (h64 : q ≤ 64) : pp (factors (q : Int)) = ((((spl q).1 : Nat) : Int), (((spl q).2 : Nat) : Int)) := by
  have := List.all_eq_true.1 fac_check q (List.mem_range.2 (by omega))
  simp only [Bool.or_eq_true, beq_iff_eq, decide_eq_true_eq] at this
  rcases this with h | h
  · omega
  · exact h
theorem pp_one : pp (factors 1) = (0, 0) := by decide +kernel
theorem pp_bad {q : Int} (h : mkOk q = false) : (pp (factors q)).1 = 0 ∨ 64 < q := by
  by_cases h1 : q ≤ 0
  · left; unfold factors; rw [if_neg (by omega)]; rfl
  · by_cases h64 : 64 < q
    · exact .inr h64
    · left
      by_cases e : q = 1
      · rw [e, pp_one]
      · obtain ⟨n, rfl⟩ := Int.eq_ofNat_of_zero_le (show 0 ≤ q by omega)
        rw [pp_small (by omega) (by omega)]
        unfold mkOk at h
        rw [decide_eq_true (by omega), decide_eq_true (by omega), Int.toNat_natCast] at h
        simp at h
        show (((spl n).1 : Nat) : Int) = 0
        omega
theorem mkOk_t {q : Int} (h : mkOk q = true) : ∃ n : Nat, q = n ∧ 2 ≤ n ∧ n ≤ 64 ∧ MK n := by
  simp only [mkOk, Bool.and_eq_true, decide_eq_true_eq, bne_iff_ne, ne_eq] at h
  obtain ⟨n, rfl⟩ := Int.eq_ofNat_of_zero_le (show 0 ≤ q by omega)
  rw [Int.toNat_natCast] at h
  exact ⟨n, rfl, by omega, by omega, mk_of (by omega) (by omega) h.2⟩

set_option maxHeartbeats 4000000 in
set_option maxRecDepth 100000 in
theorem MakeField_c (q : Int) (w : World) : Calls Try.prog 112 #[.int .i64 q] w (MakesFC w (mkfP q) (mkfD q) (mkfL q) (mkfC q)) := by
  have hS0 := (St.refl w).newboxF 109 #[.int .i64 0, .int .i64 0, .slice none 0 0]
  cases hm : mkOk q
  · have hb := pp_bad hm
    have Hm := Lib.hid hm
    clear hm
    have HP := fun W => Lib.hid (PrimePower_c q W)
    generalize pp (factors q) = P at *
    by_cases hp : P.1 = 0
    · have f1 := eq_t hp
      clear hb hp
      go_enter Try.func112, Try.ntmps112
      go_wp2_with fail
      refine (HP _).out.mono ?_
      rintro e w1 ⟨rfl, h1⟩
      have hS1 := hS0.call0 h1
      have b0 := hS1.bcell 0 rfl 0 rfl
      have b1 := hS1.bcell 0 rfl 1 rfl
      have b2 := hS1.bcell 0 rfl 2 rfl
      have f2 := hS1.bfree 0 rfl
      go_wp2_with fail
      have hS9 := ((hS1.bstore 0 rfl 0 (.int .i64 0)).bstore 0 rfl 1 (.int .i64 0)).bstore 0 rfl 2 (.slice none 0 0)
      refine bodyPost_ret (v := .tuple #[.agg #[.int .i64 0, .int .i64 0, .slice none 0 0], .int .i64 2]) (by simp [results, Try.results112, go_sem, b0, b1, b2]) rfl ?_
      exact MakesFC.no Hm.out hS9
    · have f1 := eq_f hp
      have hq : 64 < q := hb.resolve_left hp
      clear hb hp
      go_enter Try.func112, Try.ntmps112
      go_wp2_with fail
      refine (HP _).out.mono ?_
      rintro e w1 ⟨rfl, h1⟩
      have hS1 := hS0.call0 h1
      have b0 := hS1.bcell 0 rfl 0 rfl
      have b1 := hS1.bcell 0 rfl 1 rfl
      have b2 := hS1.bcell 0 rfl 2 rfl
      have f2 := hS1.bfree 0 rfl
      go_wp2_with fail
      have hS9 := ((hS1.bstore 0 rfl 0 (.int .i64 0)).bstore 0 rfl 1 (.int .i64 0)).bstore 0 rfl 2 (.slice none 0 0)
      refine bodyPost_ret (v := .tuple #[.agg #[.int .i64 0, .int .i64 0, .slice none 0 0], .int .i64 2]) (by simp [results, Try.results112, go_sem, b0, b1, b2]) rfl ?_
      exact MakesFC.no Hm.out hS9
  · obtain ⟨n, rfl, h2, h64, hmk⟩ := mkOk_t hm
    have Hend := Lib.hid (show mkfP n = ((spl n).1 : Nat) ∧ mkfD n = ((spl n).2 : Nat) ∧ mkfL n = mkF n ∧ mkfC n = 0 by simp [mkfP, mkfD, mkfL, mkfC, hm])
    clear hm
    have HP := fun W => Lib.hid (PrimePower_c n W)
    rw [pp_small h2 h64] at HP
    have hf := hmk.fv h64
    have hirr := hmk.irr
    have hn63 := hmk.n63
    have HN := Lib.hid (show irn ((spl n).1 : Nat) (spl n).2 64 0 = mkN n from rfl)
    have Hirr := Lib.hid (show irrB ((spl n).1 : Nat) (dgt ((spl n).1 : Nat) (spl n).2 (mkN n) ++ [1]) = true from hirr)
    have HF := Lib.hid (show mkF n = dgt ((spl n).1 : Nat) (spl n).2 (mkN n) ++ [1] from rfl)
    have hq := hf.q
    rw [Int.toNat_natCast] at hq
    have p2 := hf.p2
    have p64 := hf.p64
    have d6 := hf.d6
    have d1 := hf.d1
    clear hf hirr hmk
    generalize (spl n).1 = P at *
    generalize (spl n).2 = D at *
    generalize mkN n = N0 at *
    have f1 := eq_f (show (P : Int) ≠ 0 by omega)
    have Hin := Lib.hid (fun k => (show In (P : Int) (dgt (P : Int) D k ++ [1]) from fun x hx => by
      rcases List.mem_append.1 hx with hx | hx
      · exact dgt_in (by omega) _ _ x hx
      · simp at hx; subst hx; omega))
    have Hq := Lib.hid hq
    clear hq
    have Hdg := fun (k : Nat) (hk : k ≤ 64) W => Lib.hid (digitsOf_c k P D W (by omega) (by omega) (by omega) (by omega) (by omega))
    simp only [lows_dgt] at Hdg
    have Hir := fun v (k : Nat) W (h : RdI W v (dgt (P : Int) D k ++ [1])) => Lib.hid (irreducible_c v (dgt (P : Int) D k ++ [1]) P W h p2 p64 (Hin.out k) (by simp) (by simpa [dgt_len] using Hq.out))
    have Hlen := Lib.hid (fun k : Nat => show (dgt (P : Int) D k).length < 4294967296 by rw [dgt_len]; omega)
    go_enter Try.func112, Try.ntmps112
    go_wp2_with fail
    refine (HP _).out.mono ?_
    rintro e w1 ⟨rfl, h1⟩
    have hS1 := hS0.call0 h1
    clear hS0 h1 HP
    go_wp2_with fail
    go_loopw [6] (fun ii wr => ∃ k f : Nat, k + f = 64 ∧ ii = .int .i64 k ∧ Hid (irn P D f k = N0) ∧ St w.heap.size w wr [box 109 w.heap.size [.int .i64 0, .int .i64 0, .slice none 0 0]]) (fun ii _ => 64 - (intOf ii).toNat)
    case atStart => exact ⟨0, 64, rfl, rfl, HN.out, hS1⟩
    case round =>
      obtain ⟨k, f, hkf, rfl, hN, hS⟩ := hrel
      have hk64 : k ≤ 64 := by omega
      have Hkf := Lib.hid hkf
      clear hkf
      cases hi : irrB P (dgt P D k ++ [1])
      · have Hi := Lib.hid hi
        have Hnx := Lib.hid (irn_next (f := f) hi (by rw [hN.out]; exact Hirr.out))
        clear hi
        go_wp2_with fail
        refine (Hdg k hk64 _).out.mono ?_
        rintro e w2 ⟨v2, rfl, h2'⟩
        have hS2 := (hS.call h2').perm List.perm_append_comm
        clear h2'
        go_wp2_with (at_builtin; refine appI hS2 0 rfl (Hlen.out k) rfl _ _ rfl rfl 1 rfl ?_; intro v3 w3 hS3)
        refine (Hir v3 k w3 (hS3.rdI 0 rfl)).out.mono ?_
        rw [Hi.out]
        rintro e w4 ⟨rfl, h4⟩
        have hS4 := hS3.call0 h4
        go_wp2_with fail
        obtain ⟨f', hf', hN'⟩ := Hnx.out
        have Hf' := Lib.hid hf'
        have HN' := Lib.hid hN'
        clear hf' hN'
        go_roundw
        case rel => exact ⟨k + 1, f', by have := Hkf.out; have := Hf'.out; omega, by go_num, HN'.out.symm.trans hN.out, hS4.sub (List.sublist_cons_self _ _)⟩
        case measure => simp [intOf]; have := Hkf.out; have := Hf'.out; omega
      · have Hi := Lib.hid hi
        have hke : k = N0 := by rw [← hN.out, irn_hit hi]
        have HE := Lib.hid hke
        clear hi hke
        go_wp2_with fail
        refine (Hdg k hk64 _).out.mono ?_
        rintro e w2 ⟨v2, rfl, h2'⟩
        have hS2 := (hS.call h2').perm List.perm_append_comm
        clear h2'
        go_wp2_with (at_builtin; refine appI hS2 0 rfl (Hlen.out k) rfl _ _ rfl rfl 1 rfl ?_; intro v3 w3 hS3)
        refine (Hir v3 k w3 (hS3.rdI 0 rfl)).out.mono ?_
        rw [Hi.out]
        rintro e w4 ⟨rfl, h4⟩
        have hS4 : St w.heap.size w w4 [box 109 w.heap.size [.int .i64 0, .int .i64 0, .slice none 0 0]] := (hS3.call0 h4).sub (List.sublist_cons_self _ _)
        clear hS hS2 hS3 h4
        go_wp2_with fail
        refine (Hdg k hk64 _).out.mono ?_
        rintro e w5 ⟨v5, rfl, h5⟩
        have hS5 := (hS4.call h5).perm List.perm_append_comm
        clear h5 hS4
        go_wp2_with (at_builtin; refine appI hS5 0 rfl (Hlen.out k) rfl _ _ rfl rfl 1 rfl ?_; intro v6 w6 hS6; generalize hLk : dgt (P : Int) D k ++ [1] = Lk at hS6; have HLk := Lib.hid hLk; clear hLk; obtain ⟨a6, c6, he6⟩ := (hS6.rdI 0 rfl).shp'; subst he6; have b0 := hS6.bcell 1 rfl 0 rfl; have b1 := hS6.bcell 1 rfl 1 rfl; have b2 := hS6.bcell 1 rfl 2 rfl; have f2 := hS6.bfree 1 rfl)
        have hS9 := ((hS6.bstore 1 rfl 0 (.int .i64 P)).bstore 1 rfl 1 (.int .i64 D)).bstore 1 rfl 2 (.slice a6 Lk.length c6)
        refine bodyPost_ret (v := .tuple #[.agg #[.int .i64 P, .int .i64 D, .slice a6 Lk.length c6], .int .i64 0]) (by simp [results, Try.results112, go_sem, b0, b1, b2]) rfl ?_
        refine ⟨_, by rw [Hend.out.1, Hend.out.2.1, Hend.out.2.2.2]; rfl, ?_⟩
        rw [Hend.out.2.2.1, HF.out, ← HE.out, HLk.out]
        exact hS9.sub (by simp only [List.set_cons_zero, List.set_cons_succ, List.cons_append, List.nil_append]; exact (List.nil_sublist _).cons_cons _)
set_option maxHeartbeats 4000000 in
set_option maxRecDepth 100000 in
theorem l03Make_c (q : Nat) (w : World) (h2 : 2 ≤ q) (h64 : q ≤ 64) (hmk : MK q) : Calls Try.prog 146 #[.int .i64 q] w (MakesF w ((spl q).1 : Nat) ((spl q).2 : Nat) (mkF q)) := by
  have hS0 := (St.refl w).newboxF 109 #[.int .i64 0, .int .i64 0, .slice none 0 0]
  have HP := fun W => Lib.hid (l03Split_c q W h2 h64)
  have hf := hmk.fv h64
  have hirr := hmk.irr
  have HN := Lib.hid (show irn ((spl q).1 : Nat) (spl q).2 64 0 = mkN q from rfl)
  have Hirr := Lib.hid (show irrB ((spl q).1 : Nat) (dgt ((spl q).1 : Nat) (spl q).2 (mkN q) ++ [1]) = true from hirr)
  have HF := Lib.hid (show mkF q = dgt ((spl q).1 : Nat) (spl q).2 (mkN q) ++ [1] from rfl)
  have hq := hf.q
  rw [Int.toNat_natCast] at hq
  have p2 := hf.p2
  have p64 := hf.p64
  have d6 := hf.d6
  have d1 := hf.d1
  clear hf hirr hmk
  generalize (spl q).1 = P at *
  generalize (spl q).2 = D at *
  generalize mkN q = N0 at *
  have Hin := Lib.hid (fun k => (show In (P : Int) (dgt (P : Int) D k ++ [1]) from fun x hx => by
    rcases List.mem_append.1 hx with hx | hx
    · exact dgt_in (by omega) _ _ x hx
    · simp at hx; subst hx; omega))
  have Hq := Lib.hid hq
  clear hq
  have Hdg := fun (k : Nat) (hk : k ≤ 64) W => Lib.hid (l03Digits_c k P D W (by omega) (by omega) (by omega) (by omega) (by omega))
  simp only [lows_dgt] at Hdg
  have Hir := fun v (k : Nat) W (h : RdI W v (dgt (P : Int) D k ++ [1])) => Lib.hid (l03Irreducible_c v (dgt (P : Int) D k ++ [1]) P W h p2 p64 (Hin.out k) (by simp) (by simpa [dgt_len] using Hq.out))
  have Hlen := Lib.hid (fun k : Nat => show (dgt (P : Int) D k).length < 4294967296 by rw [dgt_len]; omega)
  go_enter Try.func146, Try.ntmps146
  go_wp2_with fail
  refine (HP _).out.mono ?_
  rintro e w1 ⟨rfl, rfl⟩
  go_wp2_with fail
  go_loopw [5, 6] (fun ii _ wr => ∃ k f : Nat, k + f = 64 ∧ ii = .int .i64 k ∧ Hid (irn P D f k = N0) ∧ St w.heap.size w wr [box 109 w.heap.size [.int .i64 0, .int .i64 0, .slice none 0 0]]) (fun ii _ _ => 64 - (intOf ii).toNat)
  case atStart => exact ⟨0, 64, rfl, rfl, HN.out, hS0⟩
  case round =>
    obtain ⟨k, f, hkf, rfl, hN, hS⟩ := hrel
    have hk64 : k ≤ 64 := by omega
    have Hkf := Lib.hid hkf
    clear hkf
    cases hi : irrB P (dgt P D k ++ [1])
    · have Hi := Lib.hid hi
      have Hnx := Lib.hid (irn_next (f := f) hi (by rw [hN.out]; exact Hirr.out))
      clear hi
      go_wp2_with fail
      refine (Hdg k hk64 _).out.mono ?_
      rintro e w2 ⟨v2, rfl, h2'⟩
      have hS2 := (hS.call h2').perm List.perm_append_comm
      clear h2'
      go_wp2_with (at_builtin; refine appI hS2 0 rfl (Hlen.out k) rfl _ _ rfl rfl 1 rfl ?_; intro v3 w3 hS3)
      refine (Hir v3 k w3 (hS3.rdI 0 rfl)).out.mono ?_
      rw [Hi.out]
      rintro e w4 ⟨rfl, h4⟩
      have hS4 := hS3.call0 h4
      go_wp2_with fail
      obtain ⟨f', hf', hN'⟩ := Hnx.out
      have Hf' := Lib.hid hf'
      have HN' := Lib.hid hN'
      clear hf' hN'
      go_roundw
      case rel => exact ⟨k + 1, f', by have := Hkf.out; have := Hf'.out; omega, by go_num, HN'.out.symm.trans hN.out, hS4.sub (List.sublist_cons_self _ _)⟩
      case measure => simp [intOf]; have := Hkf.out; have := Hf'.out; omega
    · have Hi := Lib.hid hi
      have hke : k = N0 := by rw [← hN.out, irn_hit hi]
      have HE := Lib.hid hke
      clear hi hke
      go_wp2_with fail
      refine (Hdg k hk64 _).out.mono ?_
      rintro e w2 ⟨v2, rfl, h2'⟩
      have hS2 := (hS.call h2').perm List.perm_append_comm
      clear h2'
      go_wp2_with (at_builtin; refine appI hS2 0 rfl (Hlen.out k) rfl _ _ rfl rfl 1 rfl ?_; intro v3 w3 hS3; generalize hLk : dgt (P : Int) D k ++ [1] = Lk at hS3; have HLk := Lib.hid hLk; clear hLk; obtain ⟨a6, c6, he6⟩ := (hS3.rdI 0 rfl).shp'; subst he6)
      refine (Hir _ k w3 (by rw [HLk.out]; exact hS3.rdI 0 rfl)).out.mono ?_
      rw [Hi.out]
      rintro e w4 ⟨rfl, h4⟩
      have hS6 := hS3.call0 h4
      have b0 := hS6.bcell 1 rfl 0 rfl
      have b1 := hS6.bcell 1 rfl 1 rfl
      have b2 := hS6.bcell 1 rfl 2 rfl
      have f2 := hS6.bfree 1 rfl
      clear hS hS2 hS3 h4
      go_wp2_with fail
      have hS9 := ((hS6.bstore 1 rfl 0 (.int .i64 P)).bstore 1 rfl 1 (.int .i64 D)).bstore 1 rfl 2 (.slice a6 Lk.length c6)
      refine bodyPost_ret (v := .agg #[.int .i64 P, .int .i64 D, .slice a6 Lk.length c6]) (by simp [results, Try.results146, go_sem, b0, b1, b2]) rfl ?_
      refine ⟨_, rfl, ?_⟩
      rw [HF.out, ← HE.out, HLk.out]
      exact hS9.sub (by simp only [List.set_cons_zero, List.set_cons_succ, List.cons_append, List.nil_append]; exact (List.nil_sublist _).cons_cons _)
end Go.Proofs.Ytpfgbbbjldpnnaa
