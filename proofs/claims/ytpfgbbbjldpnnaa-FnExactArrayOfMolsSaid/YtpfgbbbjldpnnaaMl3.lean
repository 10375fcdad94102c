/- Walks: orthogonal squares and lists of them, of the reference. Walks: valid lists of orthogonal squares, of the reference. -/
import Derived.Test.YtpfgbbbjldpnnaaMl1
namespace Go.Proofs.Ytpfgbbbjldpnnaa
set_option linter.unusedSimpArgs false
set_option linter.unusedVariables false
open Go.RowKit
attribute [local go_sem ↓] Go.wp_at_zero Go.wp_at_succ


/-- a square that is filled as far as place y of row x -/
structure FilQ (n : Nat) (f : Nat → Nat → Int) (x y : Nat) (S : List (List Int)) : Prop where
  sqr : Sqr n S
  at' : ∀ x' y', Bef n x y x' y' → at2 S x' y' = f x' y'
theorem FilQ.start {n : Nat} {f : Nat → Nat → Int} : FilQ n f 0 0 (sqF n fun _ _ => 0) := ⟨sqF_sqr _ _, fun _ _ h => by unfold Bef at h; omega⟩
theorem FilQ.step {n : Nat} {f : Nat → Nat → Int} {x y : Nat} {S : List (List Int)} (h : FilQ n f x y S) (hx : x < n) (hy : y < n) : FilQ n f x (y + 1) (putS S x y (f x y)) := by
  refine ⟨putS_sqr h.sqr hx _ _, fun x' y' hb => ?_⟩
  rw [at2_putS h.sqr hx hy]
  split
  · rename_i e; rw [← e.1, ← e.2]
  · rename_i e; exact h.at' x' y' (by unfold Bef at hb ⊢; omega)
theorem FilQ.next {n : Nat} {f : Nat → Nat → Int} {x : Nat} {S : List (List Int)} (h : FilQ n f x n S) : FilQ n f (x + 1) 0 S := ⟨h.sqr, fun x' y' hb => h.at' x' y' (by unfold Bef at hb ⊢; omega)⟩
theorem FilQ.done {n : Nat} {f : Nat → Nat → Int} {S : List (List Int)} (h : FilQ n f n 0 S) : S = sqF n f :=
  sq_ext h.sqr (sqF_sqr _ _) fun x y hx hy => by rw [h.at' x y ⟨hx, hy, .inl hx⟩, at2_sqF hx hy]
set_option maxHeartbeats 8000000 in
set_option maxRecDepth 100000 in
theorem l07Over_c (v v' : Value) (us us' : List Value) (n : Nat) (A B : List (List Int)) (w : World) (hv : RII w v us A) (hv' : RII w v' us' B) (hA : Sq0 n A) (hB : Sq0 n B) (hn2 : n ≤ 100) :
    Calls Try.prog 144 #[v, v'] w (MakesII w (ovL n A B)) := by
  have hln := hv.len
  rw [hA.len] at hln
  have HE := fun W => Lib.hid (l06Zero_c n W (by omega))
  have hN : n * n ≤ 10000 := Nat.mul_le_mul hn2 hn2
  have H := Lib.hid (And.intro hA hB)
  have Hv := Lib.hid hv
  have Hv' := Lib.hid hv'
  have HD := Lib.hid (show ovL n A B = sqF n fun x y => ((ovF n A B x y : Nat) : Int) from rfl)
  clear hA hB hv hv'
  go_enter Try.func144, Try.ntmps144
  go_wp2_with fail
  refine (HE _).out.mono ?_
  rintro e w2 ⟨o, uo, rfl, hl, hS2⟩
  rw [sqF_len] at hl
  have Hl := Lib.hid hl
  have hS3 : St w.heap.size w w2 (own2 o uo (sqF n fun _ _ => 0) ++ []) := by rw [List.append_nil]; exact hS2
  clear hS2 hl
  go_wp2_with fail
  go_loopw [7, 8] (fun i _ wr => ∃ (k : Nat) (S : List (List Int)), k ≤ n ∧ i = .int .i64 k ∧ Hid (FilQ n (fun x y => ((ovF n A B x y : Nat) : Int)) k 0 S) ∧ St w.heap.size w wr (own2 o uo S ++ [])) (fun i _ _ => n - (intOf i).toNat)
  case atStart => exact ⟨0, _, by omega, rfl, FilQ.start, hS3⟩
  case round =>
    clear hS3
    obtain ⟨k, S, hk, rfl, hI, hS⟩ := hrel
    by_cases hlt : k < n
    · go_wp2_with fail
      go_loopw [8] (fun j wr' => ∃ (y : Nat) (S : List (List Int)), y ≤ n ∧ j = .int .i64 y ∧ Hid (FilQ n (fun x y => ((ovF n A B x y : Nat) : Int)) k y S) ∧ St w.heap.size w wr' (own2 o uo S ++ [])) (fun j _ => n - (intOf j).toNat)
      case atStart => exact ⟨0, S, by omega, rfl, hI.out, hS⟩
      case round =>
        clear hI hS
        obtain ⟨y, S, hy, rfl, hI, hS⟩ := hrel
        by_cases hly : y < n
        · obtain ⟨hA, hB⟩ := H.out
          have hxA : k < A.length := by rw [hA.len]; exact hlt
          have hxB : k < B.length := by rw [hB.len]; exact hlt
          have hR1 := hS.oldII Hv.out
          have hR2 := hS.oldII Hv'.out
          have i1 := hR1.ixe (k : Int) k rfl hxA
          have i2 := hR2.ixe (k : Int) k rfl hxB
          have i3 := (hR1.row k hxA).ixe (y : Int) y rfl (by rw [hA.row k hlt]; exact hly)
          have i4 := (hR2.row k hxB).ixe (y : Int) y rfl (by rw [hB.row k hlt]; exact hly)
          have c1 := hR1.cell k hxA
          have c2 := hR2.cell k hxB
          have eA := af_eq hA hlt hly
          have eB := af_eq hB hlt hly
          have c3 : wr.cell? (el (vat us k) y) = some (.int .i64 (af A k y : Nat)) := by rw [← eA.1]; exact (hR1.row k hxA).cell y (by rw [hA.row k hlt]; exact hly)
          have c4 : wr.cell? (el (vat us' k) y) = some (.int .i64 (af B k y : Nat)) := by rw [← eB.1]; exact (hR2.row k hxB).cell y (by rw [hB.row k hlt]; exact hly)
          have hltN := ovF_lt hA hB hlt hly
          have hO : ovF n A B k y = n * af A k y + af B k y := rfl
          have hsl : S.length = n := hI.out.sqr.len
          have hsa : (xat S k).length = n := hI.out.sqr.row k hlt
          have hlS : uo.length = S.length := by rw [Hl.out, hsl]
          have hR := rii2 hS hlS
          have hat := hS.at_row hlS (j := k) (by rw [hsl]; exact hlt)
          have z0 := hR.cell k (by rw [hsl]; exact hlt)
          have xo := hR.ixe (k : Int) k rfl (by rw [hsl]; exact hlt)
          have xb := (hS.rdI (k + 1) hat).ixe (y : Int) y rfl (by rw [hsa]; exact hly)
          have u1 := hS.unfrozen (k + 1) hat (j := y) (by rw [iv_len, hsa]; exact hly)
          have co1 := (hS.rdI (k + 1) hat).cell y (by rw [hsa]; exact hly)
          have HS9 := Lib.hid (hS.drew.store (k + 1) hat (j := y) (by rw [iv_len, hsa]; exact hly) (.int .i64 ((ovF n A B k y : Nat) : Int)))
          have Hst2 := Lib.hid (hI.out.step hlt hly)
          have Hset := Lib.hid (own2_set (v := o) (L2 := []) hlS (j := k) (by rw [hsl]; exact hlt) ((xat S k).set y ((ovF n A B k y : Nat) : Int)))
          generalize hoo : ovF n A B k y = oo at *
          generalize af A k y = a at *
          generalize af B k y = b at *
          obtain ⟨P, hP⟩ : ∃ P, P = n * a := ⟨_, rfl⟩
          rw [← hP] at hO
          have q1 : (n : Int) * (a : Int) = (P : Int) := by rw [hP]; rfl
          have q2 : IntKind.i64.wrap (P : Int) = (P : Int) := IntWalk.i64_in _ (by omega)
          have q3 : (P : Int) + (b : Int) = (oo : Int) := by omega
          have q4 : IntKind.i64.wrap (oo : Int) = (oo : Int) := IntWalk.i64_in _ (by omega)
          clear hI hR hR1 hR2 hat hlS hsl hsa hS hA hB hO hP eA eB hoo hltN hxA hxB
          go_wp2_with fail
          refine regionG (fun w' => w'.cell? (el o k) = some (vat uo k) ∧ w'.cell? (el v k) = some (vat us k) ∧ w'.cell? (el (vat us k) y) = some (.int .i64 (a : Int)) ∧ w'.cell? (el v' k) = some (vat us' k) ∧ w'.cell? (el (vat us' k) y) = some (.int .i64 (b : Int))) 23 (by kernel_rfl) ⟨cell_dr z0, cell_dr c1, cell_dr c3, cell_dr c2, cell_dr c4⟩ (fun hHeld => ?_)
          refine takeP (i := 0) (v := ?_) rfl (by kernel_rfl) (fun _ _ _ h => h) (by rfl) ?_ (by assumption) ?_
          case refine_2 => (intro w'; go_simp; first | done | with_reducible rfl)
          try simp only [Act.put, List.setIfInBounds_toArray, List.set_cons_zero, List.set_cons_succ]
          refine takeP (i := 1) (v := ?_) rfl (by kernel_rfl) (fun _ _ _ h => h) (by rfl) ?_ (by assumption) ?_
          case refine_2 => (intro w'; go_simp; first | done | with_reducible rfl)
          try simp only [Act.put, List.setIfInBounds_toArray, List.set_cons_zero, List.set_cons_succ]
          refine takeP (i := 2) (v := ?_) rfl (by kernel_rfl) (fun _ _ _ h => h) (by rfl) ?_ (by assumption) ?_
          case refine_2 => (intro w'; go_simp; first | done | with_reducible rfl)
          try simp only [Act.put, List.setIfInBounds_toArray, List.set_cons_zero, List.set_cons_succ]
          refine takeH (i := 3) [22] (v := ?_) rfl (by kernel_rfl) (fun _ _ _ h => h) (by rfl) ?_ (by assumption) ?_
          case refine_2 => (intro w' hSw; (try dsimp only at hSw); go_simp; first | done | with_reducible rfl)
          try simp only [Act.put, List.setIfInBounds_toArray, List.set_cons_zero, List.set_cons_succ]
          refine takeP (i := 4) (v := ?_) rfl (by kernel_rfl) (fun _ _ _ h => h) (by rfl) ?_ (by assumption) ?_
          case refine_2 => (intro w'; go_simp; first | done | with_reducible rfl)
          try simp only [Act.put, List.setIfInBounds_toArray, List.set_cons_zero, List.set_cons_succ]
          refine takeP (i := 5) (v := ?_) rfl (by kernel_rfl) (fun _ _ _ h => h) (by rfl) ?_ (by assumption) ?_
          case refine_2 => (intro w'; go_simp; first | done | with_reducible rfl)
          try simp only [Act.put, List.setIfInBounds_toArray, List.set_cons_zero, List.set_cons_succ]
          refine takeP (i := 6) (v := ?_) rfl (by kernel_rfl) (fun _ _ _ h => h) (by rfl) ?_ (by assumption) ?_
          case refine_2 => (intro w'; go_simp; first | done | with_reducible rfl)
          try simp only [Act.put, List.setIfInBounds_toArray, List.set_cons_zero, List.set_cons_succ]
          refine takeP (i := 7) (v := ?_) rfl (by kernel_rfl) (fun _ _ _ h => h) (by rfl) ?_ (by assumption) ?_
          case refine_2 => (intro w'; go_simp; first | done | with_reducible rfl)
          try simp only [Act.put, List.setIfInBounds_toArray, List.set_cons_zero, List.set_cons_succ]
          refine takeP (i := 8) (v := ?_) rfl (by kernel_rfl) (fun _ _ _ h => h) (by rfl) ?_ (by assumption) ?_
          case refine_2 => (intro w'; go_simp; first | done | with_reducible rfl)
          try simp only [Act.put, List.setIfInBounds_toArray, List.set_cons_zero, List.set_cons_succ]
          refine takeH (i := 9) [11, 12, 13, 21] (v := ?_) rfl (by kernel_rfl) (fun _ _ _ h => h) (by rfl) ?_ (by assumption) ?_
          case refine_2 => (intro w' hSw; (try dsimp only at hSw); go_simp; first | done | with_reducible rfl)
          try simp only [Act.put, List.setIfInBounds_toArray, List.set_cons_zero, List.set_cons_succ]
          refine takeP (i := 10) (v := ?_) rfl (by kernel_rfl) (fun _ _ _ h => h) (by rfl) ?_ (by assumption) ?_
          case refine_2 => (intro w'; go_simp; first | done | with_reducible rfl)
          try simp only [Act.put, List.setIfInBounds_toArray, List.set_cons_zero, List.set_cons_succ]
          refine takeP (i := 11) (v := ?_) rfl (by kernel_rfl) (fun _ _ _ h => h) (by rfl) ?_ (by assumption) ?_
          case refine_2 => (intro w'; go_simp; first | done | with_reducible rfl)
          try simp only [Act.put, List.setIfInBounds_toArray, List.set_cons_zero, List.set_cons_succ]
          refine takeH (i := 12) [13, 21] (v := ?_) rfl (by kernel_rfl) (fun _ _ _ h => h) (by rfl) ?_ (by assumption) ?_
          case refine_2 => (intro w' hSw; (try dsimp only at hSw); go_simp; first | done | with_reducible rfl)
          try simp only [Act.put, List.setIfInBounds_toArray, List.set_cons_zero, List.set_cons_succ]
          refine takeP (i := 13) (v := ?_) rfl (by kernel_rfl) (fun _ _ _ h => h) (by rfl) ?_ (by assumption) ?_
          case refine_2 => (intro w'; go_simp; first | done | with_reducible rfl)
          try simp only [Act.put, List.setIfInBounds_toArray, List.set_cons_zero, List.set_cons_succ]
          refine takeP (i := 14) (v := ?_) rfl (by kernel_rfl) (fun _ _ _ h => h) (by rfl) ?_ (by assumption) ?_
          case refine_2 => (intro w'; go_simp; first | done | with_reducible rfl)
          try simp only [Act.put, List.setIfInBounds_toArray, List.set_cons_zero, List.set_cons_succ]
          refine takeP (i := 15) (v := ?_) rfl (by kernel_rfl) (fun _ _ _ h => h) (by rfl) ?_ (by assumption) ?_
          case refine_2 => (intro w'; go_simp; first | done | with_reducible rfl)
          try simp only [Act.put, List.setIfInBounds_toArray, List.set_cons_zero, List.set_cons_succ]
          refine takeP (i := 16) (v := ?_) rfl (by kernel_rfl) (fun _ _ _ h => h) (by rfl) ?_ (by assumption) ?_
          case refine_2 => (intro w'; go_simp; first | done | with_reducible rfl)
          try simp only [Act.put, List.setIfInBounds_toArray, List.set_cons_zero, List.set_cons_succ]
          refine takeH (i := 17) [19, 20, 21] (v := ?_) rfl (by kernel_rfl) (fun _ _ _ h => h) (by rfl) ?_ (by assumption) ?_
          case refine_2 => (intro w' hSw; (try dsimp only at hSw); go_simp; first | done | with_reducible rfl)
          try simp only [Act.put, List.setIfInBounds_toArray, List.set_cons_zero, List.set_cons_succ]
          refine takeP (i := 18) (v := ?_) rfl (by kernel_rfl) (fun _ _ _ h => h) (by rfl) ?_ (by assumption) ?_
          case refine_2 => (intro w'; go_simp; first | done | with_reducible rfl)
          try simp only [Act.put, List.setIfInBounds_toArray, List.set_cons_zero, List.set_cons_succ]
          refine takeP (i := 19) (v := ?_) rfl (by kernel_rfl) (fun _ _ _ h => h) (by rfl) ?_ (by assumption) ?_
          case refine_2 => (intro w'; go_simp; first | done | with_reducible rfl)
          try simp only [Act.put, List.setIfInBounds_toArray, List.set_cons_zero, List.set_cons_succ]
          refine takeH (i := 20) [21] (v := ?_) rfl (by kernel_rfl) (fun _ _ _ h => h) (by rfl) ?_ (by assumption) ?_
          case refine_2 => (intro w' hSw; (try dsimp only at hSw); go_simp; first | done | with_reducible rfl)
          try simp only [Act.put, List.setIfInBounds_toArray, List.set_cons_zero, List.set_cons_succ]
          refine takeP (i := 21) (v := ?_) rfl (by kernel_rfl) (fun _ _ _ h => h) (by rfl) ?_ (by assumption) ?_
          case refine_2 => (intro w'; go_simp; first | done | with_reducible rfl)
          try simp only [Act.put, List.setIfInBounds_toArray, List.set_cons_zero, List.set_cons_succ]
          refine takeP (i := 22) (v := ?_) rfl (by kernel_rfl) (fun _ _ _ h => h) (by rfl) ?_ (by assumption) ?_
          case refine_2 => (intro w'; go_simp; first | done | with_reducible rfl)
          try simp only [Act.put, List.setIfInBounds_toArray, List.set_cons_zero, List.set_cons_succ]
          refine readyG (rs := [23]) (by kernel_rfl) (by simp) ?_
          refine AllG.last rfl (by kernel_rfl) (fun K hK => ?_) AllG.nil
          go_simp
          refine hK.out _ _ ?_
          clear hK K
          try simp only [Act.put, List.setIfInBounds_toArray, List.set_cons_zero, List.set_cons_succ]
          refine doneG (by kernel_rfl) ?_ _
          refine NoPanic.normal ?_
          have hS9 := HS9.out
          rw [iv_set, Hset.out] at hS9
          go_wp2_with fail
          go_roundw
          case rel => exact ⟨y + 1, _, by omega, by go_num, Hst2.out, hS9⟩
          case measure => simp [intOf]; omega
        · obtain rfl : y = n := by omega
          have Hnx := Lib.hid hI.out.next
          go_wp2_with fail
          go_roundw
          case rel => exact ⟨k + 1, S, by omega, by go_num, Hnx.out, hS⟩
          case measure => simp [intOf]; omega
    · obtain rfl : k = n := by omega
      have hd := hI.out.done
      rw [List.append_nil] at hS
      have hlS : uo.length = S.length := by rw [Hl.out, hI.out.sqr.len]
      rw [hd, ← HD.out] at hS hlS
      have HL := Lib.hid hlS
      clear hd hlS
      go_wp2_with fail
      go_ret
      exact ⟨o, uo, rfl, HL.out, hS⟩
set_option maxHeartbeats 8000000 in
set_option maxRecDepth 100000 in
theorem l07Orthogonal_c (v v' : Value) (us us' : List Value) (A B : List (List Int)) (w : World) (hv : RII w v us A) (hv' : RII w v' us' B) (hA : Lat A) (hB : Lat B) (hne : A.length = B.length) :
    Calls Try.prog 119 #[v, v'] w (GivesB w (orB A B)) := by
  have hla := hv.len
  have hlb := hv'.len
  have hA10 := hA.le
  have hB10 := hB.le
  have f1 : ((A.length : Int) != (B.length : Int)) = false := ne_f (by omega)
  have qA := hA.sq0
  have qB : Sq0 A.length B := by rw [hne]; exact hB.sq0
  have V1 := Lib.hid (l06Ok_c v us A w hv)
  rw [latB_yes hA] at V1
  have V2 := fun W a => Lib.hid (l06Ok_c v' us' B W a)
  rw [latB_yes hB] at V2
  have HS := fun W (a : RII W v us A) (b : RII W v' us' B) => Lib.hid (l07Over_c v v' us us' A.length A B W a b qA qB (by omega))
  obtain ⟨n, hn⟩ : ∃ n, n = A.length := ⟨_, rfl⟩
  obtain ⟨N, hN⟩ : ∃ N, N = n * n := ⟨_, rfl⟩
  have hNle : N ≤ 100 := by rw [hN]; exact Nat.mul_le_mul (show n ≤ 10 by omega) (show n ≤ 10 by omega)
  have q1 : (A.length : Int) * (A.length : Int) = (N : Int) := by rw [hN, hn]; rfl
  have Hq := Lib.hid (And.intro qA qB)
  rw [← hn] at Hq HS
  have HfN := Lib.hid (fun x y (hx : x < n) (hy : y < n) => (show ovF n A B x y < N by rw [hN]; exact ovF_lt Hq.out.1 Hq.out.2 hx hy))
  have HY := Lib.hid (fun s (h : SnI n N (ovF n A B) n 0 s) => orB_yes hne (by rw [← hn]; exact h.ort Hq.out.1 Hq.out.2))
  have HNo := Lib.hid (fun x y s (h : SnI n N (ovF n A B) x y s) hx hy hb => orB_no (A := A) (B := B) fun hh => h.nort Hq.out.1 Hq.out.2 hx hy (HfN.out x y hx hy) hb (by rw [hn]; exact hh.2))
  have hnn : n ≤ 10 := by omega
  rw [← hne, ← hn] at hlb
  rw [← hne, ← hn] at f1
  rw [← hn] at hla q1
  clear qA qB hN hA10 hB10 hA hB hne hn
  go_enter Try.func119, Try.ntmps119
  go_wp2_with fail
  refine V1.out.mono ?_
  rintro e w1 ⟨rfl, h1⟩
  go_wp2_with (go_at_call 76; refine (V2 _ (h1.oldII hv')).out.mono ?_; rintro e w2 ⟨rfl, h2'⟩; have h2 := h1.call0 h2'; clear h2')
  refine (HS _ (h2.oldII hv) (h2.oldII hv')).out.mono ?_
  rintro e w3 ⟨o, uo, rfl, hl, h3⟩
  have hln := (h3.rii hl).len
  have hox := (h3.rii hl).ixe
  rw [ovL_len] at hln hl hox
  have Hl := Lib.hid hl
  have hS3 := h2.trans h3
  clear hl h1 h2 h3 V1
  go_wp2_with (at_make; refine mkO hS3 rfl _ _ rfl _ _ N rfl rfl (by omega) ?_; intro sv w4 hS4)
  have hS5 : St w.heap.size w w4 (row 4 sv (bo (List.replicate N false)) :: own2 o uo (ovL n A B)) := hS4.perm List.perm_append_comm
  have hsx := (hS5.rdO 0 rfl).ixe
  simp only [List.length_replicate] at hsx
  clear hS3 hS4
  go_loopw [8, 9] (fun i _ wr => ∃ (k : Nat) (s : List Bool), k ≤ n ∧ i = .int .i64 k ∧ Hid (SnI n N (ovF n A B) k 0 s) ∧ St w.heap.size w wr (row 4 sv (bo s) :: own2 o uo (ovL n A B))) (fun i _ _ => n - (intOf i).toNat)
  case atStart => exact ⟨0, _, by omega, rfl, SnI.start, hS5⟩
  case round =>
    clear hS5
    obtain ⟨k, s, hk, rfl, hI, hS⟩ := hrel
    by_cases hlt : k < n
    · go_wp2_with fail
      go_loopw [9] (fun j wr' => ∃ (y : Nat) (s : List Bool), y ≤ n ∧ j = .int .i64 y ∧ Hid (SnI n N (ovF n A B) k y s) ∧ St w.heap.size w wr' (row 4 sv (bo s) :: own2 o uo (ovL n A B))) (fun j _ => n - (intOf j).toNat)
      case atStart => exact ⟨0, s, by omega, rfl, hI.out, hS⟩
      case round =>
        clear hI hS
        obtain ⟨y, s, hy, rfl, hI, hS⟩ := hrel
        by_cases hly : y < n
        · have hR := (hS.sub (L' := own2 o uo (ovL n A B)) (List.sublist_cons_self _ _)).rii (by rw [Hl.out, ovL_len])
          have ck := hR.cell k (by rw [ovL_len]; exact hlt)
          have hxk := hox (k : Int) k rfl hlt
          have hrow := hR.row k (by rw [ovL_len]; exact hlt)
          have cy := hrow.cell y (by rw [ovL_row hlt]; exact hly)
          rw [ovL_at hlt hly] at cy
          have hxy := hrow.ixe (y : Int) y rfl (by rw [ovL_row hlt]; exact hly)
          have hfN := HfN.out k y hlt hly
          have hxs := hsx ((ovF n A B k y : Nat) : Int) (ovF n A B k y) rfl hfN
          have cs := (hS.rdO 0 rfl).cell (ovF n A B k y) (by rw [hI.out.len]; exact hfN)
          clear hR hrow
          cases hb : bat s (ovF n A B k y)
          · have Hst := Lib.hid (hI.out.step hlt hly hfN hb)
            have Hsl := Lib.hid (show ovF n A B k y < s.length by rw [hI.out.len]; exact hfN)
            rw [hb] at cs
            clear hb
            generalize ovF n A B k y = o' at *
            go_wp2_with (refine stoO hS 0 rfl o' Hsl.out rfl _ _ rfl rfl true rfl ?_; intro w2' hS2)
            simp only [List.set_cons_zero] at hS2
            go_roundw
            case rel => exact ⟨y + 1, _, by omega, by go_num, Hst.out, hS2⟩
            case measure => simp [intOf]; omega
          · have Hno := Lib.hid (HNo.out _ _ _ hI.out hlt hly hb)
            rw [hb] at cs
            clear hb
            generalize ovF n A B k y = o' at *
            go_wp2_with fail
            go_ret
            exact ⟨ret_bool Hno.out.symm, hS.out⟩
        · obtain rfl : y = n := by omega
          have Hnx := Lib.hid hI.out.next
          go_wp2_with fail
          go_roundw
          case rel => exact ⟨k + 1, s, by omega, by go_num, Hnx.out, hS⟩
          case measure => simp [intOf]; omega
    · obtain rfl : k = n := by omega
      have Hy := Lib.hid (HY.out _ hI.out)
      go_wp2_with fail
      go_ret
      exact ⟨ret_bool Hy.out.symm, hS.out⟩


set_option maxHeartbeats 8000000 in
set_option maxRecDepth 100000 in
theorem l07Ok_c (v : Value) (vs : List Value) (uss : List (List Value)) (X : List (List (List Int))) (w : World) (hv : RIII w v vs uss X) :
    Calls Try.prog 88 #[v] w (GivesB w (molB X)) := by
  have hln := hv.len
  have hix := hv.ixe
  have hle := hv.le
  have Hv := Lib.hid hv
  by_cases h1 : X.length < 1
  · have H := Lib.hid (molB_no (X := X) fun h => by have := h.pos; omega)
    go_enter Try.func88, Try.ntmps88
    go_wp2_with fail
    go_ret
    exact ⟨ret_bool H.out.symm, St.refl w⟩
  · by_cases h2 : 10 < X.length
    · have H := Lib.hid (molB_no (X := X) fun h => by have := h.le; omega)
      go_enter Try.func88, Try.ntmps88
      go_wp2_with fail
      go_ret
      exact ⟨ret_bool H.out.symm, St.refl w⟩
    · have h0 : 0 < X.length := by omega
      have hx0 := hix 0 0 rfl h0
      clear hv
      go_enter Try.func88, Try.ntmps88
      go_wp2_with fail
      go_loopw [3, 4] (fun i _ wr => ∃ k : Nat, k ≤ X.length ∧ i = .int .i64 k ∧ Hid (∀ j, j < k → Lat (x3at X j) ∧ (x3at X j).length = (x3at X 0).length ∧ ∀ i, i < j → orB (x3at X j) (x3at X i) = true) ∧ St w.heap.size w wr []) (fun i _ _ => X.length - (intOf i).toNat)
      case atStart => exact ⟨0, by omega, rfl, fun j hj => by omega, St.refl w⟩
      case round =>
        obtain ⟨k, hk, rfl, hI, hS⟩ := hrel
        by_cases hlt : k < X.length
        · have g1 := fun s : SS w.heap.size w [] => (s.st.oldIII Hv.out).cell k hlt
          have g2 := fun s : SS w.heap.size w [] => (s.st.oldIII Hv.out).cell 0 h0
          have l1 := ((hS.oldIII Hv.out).row k hlt).len
          have l2 := ((hS.oldIII Hv.out).row 0 h0).len
          have hxk := hix (k : Int) k rfl hlt
          have HV := fun s : SS w.heap.size w [] => Lib.hid (l06Ok_c (vat vs k) (vsat uss k) (x3at X k) s.w ((s.st.oldIII Hv.out).row k hlt))
          cases hl : latB (x3at X k)
          · have Hno := Lib.hid (molB_no (X := X) fun h => by have := latB_yes (h.lat k hlt); rw [hl] at this; cases this)
            rw [hl] at HV
            clear hl
            by_cases hne : (x3at X k).length = (x3at X 0).length
            · have f1 : (((x3at X k).length : Int) != ((x3at X 0).length : Int)) = false := ne_f (by omega)
              clear hne
              go_wp2_with fail
              have hne : Nonempty (SS _ _ _) := ⟨⟨_, hS⟩⟩
              refine wp_region_st (by kernel_rfl) (by kernel_rfl) hS ?_
              repeat (go_big_quiet_step ((go_at_call 76; exact st_quiet (HV _).out)))
              refine wpQuiet_nil ?_
              rintro _ ⟨s2, rfl⟩
              have hS2 := s2.st
              generalize s2.w = w2 at hS2 ⊢
              go_wp2_with fail
              go_ret
              exact ⟨ret_bool Hno.out.symm, hS2⟩
            · have f1 : (((x3at X k).length : Int) != ((x3at X 0).length : Int)) = true := ne_t (by omega)
              clear hne
              go_wp2_with fail
              have hne : Nonempty (SS _ _ _) := ⟨⟨_, hS⟩⟩
              refine wp_region_st (by kernel_rfl) (by kernel_rfl) hS ?_
              repeat (go_big_quiet_step ((go_at_call 76; exact st_quiet (HV _).out)))
              refine wpQuiet_nil ?_
              rintro _ ⟨s2, rfl⟩
              have hS2 := s2.st
              generalize s2.w = w2 at hS2 ⊢
              go_wp2_with fail
              go_ret
              exact ⟨ret_bool Hno.out.symm, hS2⟩
          · have Hlk := Lib.hid (latB_t hl)
            rw [hl] at HV
            clear hl
            by_cases hne : (x3at X k).length = (x3at X 0).length
            · have f1 : (((x3at X k).length : Int) != ((x3at X 0).length : Int)) = false := ne_f (by omega)
              have Hne := Lib.hid hne
              clear hne
              go_wp2_with fail
              have hne : Nonempty (SS _ _ _) := ⟨⟨_, hS⟩⟩
              refine wp_region_st (by kernel_rfl) (by kernel_rfl) hS ?_
              repeat (go_big_quiet_step ((go_at_call 76; exact st_quiet (HV _).out)))
              refine wpQuiet_nil ?_
              rintro _ ⟨s2, rfl⟩
              have hS2 := s2.st
              generalize s2.w = w2 at hS2 ⊢
              clear hS
              go_wp2_with fail
              go_loopw [4] (fun i wr' => ∃ m : Nat, m ≤ k ∧ i = .int .i64 m ∧ Hid (∀ i, i < m → orB (x3at X k) (x3at X i) = true) ∧ St w.heap.size w wr' []) (fun i _ => k - (intOf i).toNat)
              case atStart => exact ⟨0, by omega, rfl, fun j hj => by omega, hS2⟩
              case round =>
                clear hS2
                obtain ⟨m, hm, rfl, hJ, hS⟩ := hrel
                by_cases hlm : m < k
                · have g3 := fun s : SS w.heap.size w [] => (s.st.oldIII Hv.out).cell m (show m < X.length by omega)
                  have hxm := hix (m : Int) m rfl (by omega)
                  have hIm := hI.out m hlm
                  have HO := fun s : SS w.heap.size w [] => Lib.hid (l07Orthogonal_c (vat vs m) (vat vs k) (vsat uss m) (vsat uss k) (x3at X m) (x3at X k) s.w ((s.st.oldIII Hv.out).row m (by omega)) ((s.st.oldIII Hv.out).row k hlt) hIm.1 Hlk.out (by rw [hIm.2.1, Hne.out]))
                  rw [orB_symm] at HO
                  clear hIm
                  cases ho : orB (x3at X k) (x3at X m)
                  · have Hno := Lib.hid (molB_no (X := X) fun h => by have := h.ort k m hlm hlt; rw [ho] at this; cases this)
                    rw [ho] at HO
                    clear ho
                    go_wp2_with fail
                    have hne : Nonempty (SS _ _ _) := ⟨⟨_, hS⟩⟩
                    refine wp_region_st (by kernel_rfl) (by kernel_rfl) hS ?_
                    repeat (go_big_quiet_step ((go_at_call 119; exact st_quiet (HO _).out)))
                    refine wpQuiet_nil ?_
                    rintro _ ⟨s2, rfl⟩
                    have hS2 := s2.st
                    generalize s2.w = w2 at hS2 ⊢
                    go_wp2_with fail
                    go_ret
                    exact ⟨ret_bool Hno.out.symm, hS2⟩
                  · have HJ := Lib.hid (show ∀ i, i < m + 1 → orB (x3at X k) (x3at X i) = true from fun i hi => by
                      by_cases e : i = m
                      · rw [e]; exact ho
                      · exact hJ.out i (by omega))
                    rw [ho] at HO
                    clear ho
                    go_wp2_with fail
                    have hne : Nonempty (SS _ _ _) := ⟨⟨_, hS⟩⟩
                    refine wp_region_st (by kernel_rfl) (by kernel_rfl) hS ?_
                    repeat (go_big_quiet_step ((go_at_call 119; exact st_quiet (HO _).out)))
                    refine wpQuiet_nil ?_
                    rintro _ ⟨s2, rfl⟩
                    have hS2 := s2.st
                    generalize s2.w = w2 at hS2 ⊢
                    go_wp2_with fail
                    go_roundw
                    case rel => exact ⟨m + 1, by omega, by go_num, HJ.out, hS2⟩
                    case measure => simp [intOf]; omega
                · obtain rfl : m = k := by omega
                  have HI := Lib.hid (show ∀ j, j < m + 1 → Lat (x3at X j) ∧ (x3at X j).length = (x3at X 0).length ∧ ∀ i, i < j → orB (x3at X j) (x3at X i) = true from fun j hj => by
                    by_cases e : j = m
                    · rw [e]; exact ⟨Hlk.out, Hne.out, hJ.out⟩
                    · exact hI.out j (by omega))
                  go_wp2_with fail
                  go_roundw
                  case rel => exact ⟨m + 1, by omega, by go_num, HI.out, hS⟩
                  case measure => simp [intOf]; omega
            · have f1 : (((x3at X k).length : Int) != ((x3at X 0).length : Int)) = true := ne_t (by omega)
              have Hno := Lib.hid (molB_no (X := X) fun h => hne (h.len hlt))
              clear hne
              go_wp2_with fail
              have hne : Nonempty (SS _ _ _) := ⟨⟨_, hS⟩⟩
              refine wp_region_st (by kernel_rfl) (by kernel_rfl) hS ?_
              repeat (go_big_quiet_step ((go_at_call 76; exact st_quiet (HV _).out)))
              refine wpQuiet_nil ?_
              rintro _ ⟨s2, rfl⟩
              have hS2 := s2.st
              generalize s2.w = w2 at hS2 ⊢
              go_wp2_with fail
              go_ret
              exact ⟨ret_bool Hno.out.symm, hS2⟩
        · obtain rfl : k = X.length := by omega
          have H := Lib.hid (molB_yes (X := X) ⟨by omega, by omega, fun k hk => (hI.out k hk).1, fun k i hi hk => (hI.out k hk).2.2 i hi⟩)
          go_wp2_with fail
          go_ret
          exact ⟨ret_bool H.out.symm, hS⟩

end Go.Proofs.Ytpfgbbbjldpnnaa
