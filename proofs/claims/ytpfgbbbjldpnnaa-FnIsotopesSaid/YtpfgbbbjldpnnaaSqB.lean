/- Walks: isotopes of the program. -/
import Derived.Test.YtpfgbbbjldpnnaaSqA
namespace Go.Proofs.Ytpfgbbbjldpnnaa
set_option linter.unusedSimpArgs false
set_option linter.unusedVariables false
open Go.RowKit
attribute [local go_sem ↓] Go.wp_at_zero Go.wp_at_succ

set_option maxHeartbeats 8000000 in
set_option maxRecDepth 100000 in
theorem isotope_c (v vr vc vs : Value) (us : List Value) (A : List (List Int)) (r c s : List Int) (w : World) (hv : RII w v us A) (hr : RdI w vr r) (hc : RdI w vc c) (hs : RdI w vs s)
    (h : Sq0 A.length A) (pr : IsP r) (pc : IsP c) (lr : r.length = A.length) (lc : c.length = A.length) (ls : s.length = A.length) (hn : A.length ≤ 100) :
    Calls Try.prog 75 #[v, vr, vc, vs] w (MakesII w (isoL A r c s)) := by
  have hln := hv.len
  have hix := hv.ix
  have hrx := hr.ixe
  have hcx := hc.ixe
  have hsx := hs.ixe
  rw [lr] at hrx
  rw [lc] at hcx
  rw [ls] at hsx
  have HZ := fun W (h : RII W v us A) => Lib.hid (szII_c v us A W h)
  have HE := fun W => Lib.hid (emptySquare_c A.length W (by omega))
  have H := Lib.hid (And.intro h (And.intro pr (And.intro pc (And.intro lr (And.intro lc ls)))))
  have Hst := Lib.hid (IsoP.start (A := A) (r := r) (c := c) (s := s))
  have Hv := Lib.hid hv
  have Hr := Lib.hid hr
  have Hc := Lib.hid hc
  have Hs := Lib.hid hs
  clear h pr pc lr lc ls
  go_enter Try.func75, Try.ntmps75
  go_wp2_with (first
    | (go_at_call 80; refine (HE _).out.mono ?_; rintro e w2 ⟨o, uo, rfl, hl, hS2⟩; have Hl := Lib.hid hl; clear hl)
    | (go_at_call 74; refine (HZ _ hv).out.mono ?_; rintro e w1 ⟨rfl, rfl⟩))
  rw [sqF_len] at Hl
  have hS3 : St w.heap.size w w2 (own2 o uo (sqF A.length fun _ _ => 0) ++ []) := by rw [List.append_nil]; exact hS2
  clear hS2 hv hr hc hs
  go_loopw [10, 11, 12, 13, 19, 26] (fun _ _ _ _ i _ wr => ∃ (k : Nat) (S : List (List Int)), k ≤ A.length ∧ i = .int .i64 k ∧ Hid (IsoP A r c s k 0 S) ∧ St w.heap.size w wr (own2 o uo S ++ [])) (fun _ _ _ _ i _ _ => A.length - (intOf i).toNat)
  case atStart => exact ⟨0, _, by omega, rfl, Hst.out, hS3⟩
  case round =>
    clear hS3
    obtain ⟨k, S, hk, rfl, hI, hS⟩ := hrel
    by_cases hlt : k < A.length
    · have ck := (hS.oldII Hv.out).cell k hlt
      have hrow := (Hv.out.row k hlt)
      have hrl := H.out.1.row k hlt
      have hrn := hrow.len
      rw [hrl] at hrn
      have hri := hrow.ixe
      rw [hrl] at hri
      have Hrow := Lib.hid hrow
      have Hrl := Lib.hid hrl
      clear hrow hrl
      go_wp2_with fail
      go_loopw [12, 13, 26] (fun _ _ j wr' => ∃ (y : Nat) (S : List (List Int)), y ≤ A.length ∧ j = .int .i64 y ∧ Hid (IsoP A r c s k y S) ∧ St w.heap.size w wr' (own2 o uo S ++ [])) (fun _ _ j _ => A.length - (intOf j).toNat)
      case atStart => exact ⟨0, S, by omega, rfl, hI.out, hS⟩
      case round =>
        clear hI hS ck
        obtain ⟨y, S, hy, rfl, hI, hS⟩ := hrel
        by_cases hly : y < A.length
        · obtain ⟨m, hm, hmn⟩ : ∃ m : Nat, at2 A k y = m ∧ m < A.length := by
            have := H.out.1.el k y hlt hly
            exact ⟨(at2 A k y).toNat, by omega, by omega⟩
          have cy : wr.cell? (el (vat us k) y) = some (.int .i64 (m : Int)) := by
            rw [← hm]; exact (hS.oldI Hrow.out).cell y (by rw [Hrl.out]; exact hly)
          have hri2 := hri (y : Int) y rfl hly
          obtain ⟨a, ha⟩ : ∃ a, a = pf r k := ⟨_, rfl⟩
          obtain ⟨b, hb⟩ : ∃ b, b = pf c y := ⟨_, rfl⟩
          have han : a < A.length := by rw [ha, ← H.out.2.2.2.1]; exact H.out.2.1.pf_lt (by rw [H.out.2.2.2.1]; exact hlt)
          have hbn : b < A.length := by rw [hb, ← H.out.2.2.2.2.1]; exact H.out.2.2.1.pf_lt (by rw [H.out.2.2.2.2.1]; exact hly)
          have c1 := (hS.oldI Hr.out).cell k (by rw [H.out.2.2.2.1]; exact hlt)
          rw [nth_pf H.out.2.1 (by rw [H.out.2.2.2.1]; exact hlt), ← ha] at c1
          have c2 := (hS.oldI Hc.out).cell y (by rw [H.out.2.2.2.2.1]; exact hly)
          rw [nth_pf H.out.2.2.1 (by rw [H.out.2.2.2.2.1]; exact hly), ← hb] at c2
          have c3 := (hS.oldI Hs.out).cell m (by rw [H.out.2.2.2.2.2]; exact hmn)
          have x1 := hrx (k : Int) k rfl hlt
          have x2 := hcx (y : Int) y rfl hly
          have x3 := hsx (m : Int) m rfl hmn
          have hsl : S.length = A.length := hI.out.sqr.len
          have hsa : (xat S a).length = A.length := hI.out.sqr.row a han
          have hlS : uo.length = S.length := by rw [Hl.out, hsl]
          have hR := rii2 hS hlS
          have hat := hS.at_row hlS (j := a) (by rw [hsl]; exact han)
          have z0 := hR.cell a (by rw [hsl]; exact han)
          have xo := hR.ixe (a : Int) a rfl (by rw [hsl]; exact han)
          have xb := (hS.rdI (a + 1) hat).ixe (b : Int) b rfl (by rw [hsa]; exact hbn)
          have u1 := hS.unfrozen (a + 1) hat (j := b) (by rw [iv_len, hsa]; exact hbn)
          have co1 := (hS.rdI (a + 1) hat).cell b (by rw [hsa]; exact hbn)
          have HS9 := Lib.hid (hS.drew.store (a + 1) hat (j := b) (by rw [iv_len, hsa]; exact hbn) (.int .i64 (nth s m)))
          have Hst2 := Lib.hid (hI.out.step H.out.2.1 H.out.2.2.1 H.out.2.2.2.1 H.out.2.2.2.2.1 hlt hly)
          have Hset := Lib.hid (own2_set (v := o) (L2 := []) hlS (j := a) (by rw [hsl]; exact han) ((xat S a).set b (nth s m)))
          rw [← ha, ← hb, hm, Int.toNat_natCast] at Hst2
          generalize nth s m = q at *
          clear hI hR hat hlS hsl hsa ha hb hm han hbn hS
          go_wp2_with fail
          refine regionG (fun w' => w'.cell? (el vr k) = some (.int .i64 (a : Int)) ∧ w'.cell? (el o a) = some (vat uo a) ∧ w'.cell? (el vc y) = some (.int .i64 (b : Int)) ∧ w'.cell? (el vs m) = some (.int .i64 q)) 16 (by kernel_rfl) ⟨cell_dr c1, cell_dr z0, cell_dr c2, cell_dr c3⟩ (fun hHeld => ?_)
          refine takeP (i := 0) (v := ?_) rfl (by kernel_rfl) (fun _ _ _ h => h) (by rfl) ?_ (by assumption) ?_
          case refine_2 => (intro w'; go_simp; first | done | with_reducible rfl)
          try simp only [Act.put, List.setIfInBounds_toArray, List.set_cons_zero, List.set_cons_succ]
          refine takeP (i := 1) (v := ?_) rfl (by kernel_rfl) (fun _ _ _ h => h) (by rfl) ?_ (by assumption) ?_
          case refine_2 => (intro w'; go_simp; first | done | with_reducible rfl)
          try simp only [Act.put, List.setIfInBounds_toArray, List.set_cons_zero, List.set_cons_succ]
          refine takeP (i := 2) (v := ?_) rfl (by kernel_rfl) (fun _ _ _ h => h) (by rfl) ?_ (by assumption) ?_
          case refine_2 => (intro w'; go_simp; first | done | with_reducible rfl)
          try simp only [Act.put, List.setIfInBounds_toArray, List.set_cons_zero, List.set_cons_succ]
          refine takeP (i := 3) (v := ?_) rfl (by kernel_rfl) (fun _ _ _ h => h) (by rfl) ?_ (by assumption) ?_
          case refine_2 => (intro w'; go_simp; first | done | with_reducible rfl)
          try simp only [Act.put, List.setIfInBounds_toArray, List.set_cons_zero, List.set_cons_succ]
          refine takeH (i := 4) [5, 6, 15] (v := ?_) rfl (by kernel_rfl) (fun _ _ _ h => h) (by rfl) ?_ (by assumption) ?_
          case refine_2 => (intro w' hSw; (try dsimp only at hSw); go_simp; first | done | with_reducible rfl)
          try simp only [Act.put, List.setIfInBounds_toArray, List.set_cons_zero, List.set_cons_succ]
          refine takeP (i := 5) (v := ?_) rfl (by kernel_rfl) (fun _ _ _ h => h) (by rfl) ?_ (by assumption) ?_
          case refine_2 => (intro w'; go_simp; first | done | with_reducible rfl)
          try simp only [Act.put, List.setIfInBounds_toArray, List.set_cons_zero, List.set_cons_succ]
          refine takeH (i := 6) [15] (v := ?_) rfl (by kernel_rfl) (fun _ _ _ h => h) (by rfl) ?_ (by assumption) ?_
          case refine_2 => (intro w' hSw; (try dsimp only at hSw); go_simp; first | done | with_reducible rfl)
          try simp only [Act.put, List.setIfInBounds_toArray, List.set_cons_zero, List.set_cons_succ]
          refine takeP (i := 7) (v := ?_) rfl (by kernel_rfl) (fun _ _ _ h => h) (by rfl) ?_ (by assumption) ?_
          case refine_2 => (intro w'; go_simp; first | done | with_reducible rfl)
          try simp only [Act.put, List.setIfInBounds_toArray, List.set_cons_zero, List.set_cons_succ]
          refine takeP (i := 8) (v := ?_) rfl (by kernel_rfl) (fun _ _ _ h => h) (by rfl) ?_ (by assumption) ?_
          case refine_2 => (intro w'; go_simp; first | done | with_reducible rfl)
          try simp only [Act.put, List.setIfInBounds_toArray, List.set_cons_zero, List.set_cons_succ]
          refine takeP (i := 9) (v := ?_) rfl (by kernel_rfl) (fun _ _ _ h => h) (by rfl) ?_ (by assumption) ?_
          case refine_2 => (intro w'; go_simp; first | done | with_reducible rfl)
          try simp only [Act.put, List.setIfInBounds_toArray, List.set_cons_zero, List.set_cons_succ]
          refine takeH (i := 10) [15] (v := ?_) rfl (by kernel_rfl) (fun _ _ _ h => h) (by rfl) ?_ (by assumption) ?_
          case refine_2 => (intro w' hSw; (try dsimp only at hSw); go_simp; first | done | with_reducible rfl)
          try simp only [Act.put, List.setIfInBounds_toArray, List.set_cons_zero, List.set_cons_succ]
          refine takeP (i := 11) (v := ?_) rfl (by kernel_rfl) (fun _ _ _ h => h) (by rfl) ?_ (by assumption) ?_
          case refine_2 => (intro w'; go_simp; first | done | with_reducible rfl)
          try simp only [Act.put, List.setIfInBounds_toArray, List.set_cons_zero, List.set_cons_succ]
          refine takeP (i := 12) (v := ?_) rfl (by kernel_rfl) (fun _ _ _ h => h) (by rfl) ?_ (by assumption) ?_
          case refine_2 => (intro w'; go_simp; first | done | with_reducible rfl)
          try simp only [Act.put, List.setIfInBounds_toArray, List.set_cons_zero, List.set_cons_succ]
          refine takeP (i := 13) (v := ?_) rfl (by kernel_rfl) (fun _ _ _ h => h) (by rfl) ?_ (by assumption) ?_
          case refine_2 => (intro w'; go_simp; first | done | with_reducible rfl)
          try simp only [Act.put, List.setIfInBounds_toArray, List.set_cons_zero, List.set_cons_succ]
          refine takeH (i := 14) [] (v := ?_) rfl (by kernel_rfl) (fun _ _ _ h => h) (by rfl) ?_ (by assumption) ?_
          case refine_2 => (intro w' hSw; (try dsimp only at hSw); go_simp; first | done | with_reducible rfl)
          try simp only [Act.put, List.setIfInBounds_toArray, List.set_cons_zero, List.set_cons_succ]
          refine takeP (i := 15) (v := ?_) rfl (by kernel_rfl) (fun _ _ _ h => h) (by rfl) ?_ (by assumption) ?_
          case refine_2 => (intro w'; go_simp; first | done | with_reducible rfl)
          try simp only [Act.put, List.setIfInBounds_toArray, List.set_cons_zero, List.set_cons_succ]
          refine readyG (rs := [16]) (by kernel_rfl) (by simp) ?_
          refine AllG.last rfl (by kernel_rfl) (fun K hK => ?_) AllG.nil
          go_simp
          refine hK.out _ _ ?_
          clear hK K
          try simp only [Act.put, List.setIfInBounds_toArray, List.set_cons_zero, List.set_cons_succ]
          refine doneG (by kernel_rfl) ?_ _
          refine NoPanic.normal ?_
          have hS9 := HS9.out
          rw [iv_set, Hset.out] at hS9
          go_wp2_with fail
          go_roundw
          case rel => exact ⟨y + 1, _, by omega, by go_num, Hst2.out, hS9⟩
          case measure => simp [intOf]; omega
        · obtain rfl : y = A.length := by omega
          have Hnx := Lib.hid hI.out.next
          go_wp2_with fail
          go_roundw
          case rel => exact ⟨k + 1, S, by omega, by go_num, Hnx.out, hS⟩
          case measure => simp [intOf]; omega
    · obtain rfl : k = A.length := by omega
      have hd := hI.out.done H.out.2.1 H.out.2.2.1 H.out.2.2.2.1 H.out.2.2.2.2.1
      rw [List.append_nil] at hS
      have hlS : uo.length = S.length := by rw [Hl.out, hI.out.sqr.len]
      rw [hd] at hS hlS
      have HL := Lib.hid hlS
      clear hd hlS
      go_wp2_with fail
      go_ret
      exact ⟨o, uo, rfl, HL.out, hS⟩
end Go.Proofs.Ytpfgbbbjldpnnaa
