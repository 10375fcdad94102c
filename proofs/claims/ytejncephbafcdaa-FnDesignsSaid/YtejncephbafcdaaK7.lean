/- The texts of this claim, run 7: Pm3 DsG PDg PDi DsI DsJ LDes Prf PFnDesigns. -/
import Derived.Test.YtejncephbafcdaaK1
import Derived.Test.YtejncephbafcdaaK2
import Derived.Test.YtejncephbafcdaaK3
import Derived.Test.YtejncephbafcdaaK4
import Derived.Test.YtejncephbafcdaaK5
import Derived.Test.YtejncephbafcdaaK6
import Derived.Deep.RegionHeld3
import Derived.Deep.DrawnRows
import Derived.Deep.Cut
import Derived.ProofKit
import Derived.OpenShut
import Derived.ShutString
import Derived.ChangeOld
import Derived.Below
section
/- Walks: permutations that are made and drawn; composition, inverses. Walks: composition and inverses of permutations. -/
namespace Go.Proofs.Ytejncephbafcdaa
set_option linter.unusedSimpArgs false
set_option linter.unusedVariables false
open Go.RowKit
attribute [local go_sem ↓] Go.wp_at_zero Go.wp_at_succ


set_option maxHeartbeats 1000000 in
set_option maxRecDepth 100000 in
theorem l04One_c (n : Nat) (w : World) (hn : n ≤ 1000) : Calls Try.prog 122 #[.int .i64 n] w (MakesI w (iot n)) := by
  have hS0 : St w.heap.size w (w.alloc (.cells #[] 2)) [row 2 (.slice (some ⟨w.heap.size, 0, none⟩) 0 0) (iv [])] := (St.refl w).new 2 #[] (by simp)
  go_enter Try.func122, Try.ntmps122
  go_wp2_with fail
  go_loopw [3, 4] (fun o x wr => ∃ k : Nat, k ≤ n ∧ x = .int .i64 k ∧ St w.heap.size w wr [row 2 o (iv (iot k))]) (fun _ x _ => n - (intOf x).toNat)
  case atStart => exact ⟨0, by omega, rfl, hS0⟩
  case round =>
    obtain ⟨k, hk, rfl, hS⟩ := hrel
    have hkl := iot_len k
    by_cases hlt : k < n
    · go_wp2_with (at_builtin; refine appI hS 0 rfl (by omega) rfl _ _ rfl rfl _ rfl ?_; intro v2 w2 hS2)
      go_roundw
      case rel => exact ⟨k + 1, by omega, by go_num, by rw [iot_succ]; exact hS2⟩
      case measure => simp [intOf]; omega
    · obtain rfl : k = n := by omega
      go_wp2_with fail
      go_ret
      exact ⟨_, rfl, hS⟩
/-- a permutation of n numbers, and the source goes on -/
def PermS (w0 : World) (cv : Value) (g K n : Nat) (L : List Ent) (e : Ending) (w' : World) : Prop := ∃ v xs, e = .returned v ∧ xs.length = n ∧ IsP xs ∧ Src w0 w' cv g K (row 2 v (iv xs) :: L)
set_option maxHeartbeats 2000000 in
set_option maxRecDepth 100000 in
theorem l04DrawPerm_c (w0 w : World) (cv : Value) (bs : List UInt8) (g K : Nat) (L : List Ent) (n : Nat) (hb : RdB w0 cv bs) (h : Src w0 w cv g K L) (hK : K < 100000000000) (hn : n ≤ 1000) :
    Calls Try.prog 76 #[.pointer (some ⟨g, 0, none⟩), .int .i64 n] w (PermS w0 cv g (K + 2 * n) n L) := by
  go_enter Try.func76, Try.ntmps76
  go_wp2_with fail
  refine (l04One_c n w hn).mono ?_
  rintro e w1 ⟨u, rfl, h1⟩
  have h2 := (h.call h1).perm List.perm_append_comm
  simp only [List.cons_append, List.nil_append] at h2
  clear h h1
  go_wp2_with fail
  go_loopw [6, 7, 8] (fun x _ _ wr => ∃ (j : Nat) (xs : List Int), j ≤ n ∧ x = .int .i64 ((j : Int) - 1) ∧ Hid (xs.length = n) ∧ Hid (IsP xs) ∧ Src w0 wr cv g (K + 2 * (n - j)) (row 2 u (iv xs) :: L)) (fun x _ _ _ => (intOf x).toNat)
  case atStart => exact ⟨n, iot n, by omega, by go_num, iot_len n, iot_isP n, h2.mono (by omega)⟩
  case round =>
    clear h2
    obtain ⟨j, xs, hj, rfl, hl, hp, hs⟩ := hrel
    by_cases h2 : 2 ≤ j
    · go_wp2_with fail
      refine (pick_c w0 wr cv bs g _ _ _ hb hs (by omega)).mono ?_
      rintro e w2 ⟨x, x0, x1, rfl, h3⟩
      obtain ⟨y, rfl⟩ := Int.eq_ofNat_of_zero_le x0
      have hyj : y < j := by omega
      have hyk : y < n := by omega
      have hr := h3.rdI 0 rfl
      have hi1 := hr.ixe ((j : Int) - 1) (j - 1) (by omega) (by rw [hl.out]; omega)
      have hi2 := hr.ixe (y : Int) y rfl (by rw [hl.out]; omega)
      have hc1 := hr.cell (j - 1) (by rw [hl.out]; omega)
      have hc2 := hr.cell y (by rw [hl.out]; omega)
      have Hsw := Lib.hid (hp.out.swp (i := j - 1) (k := y) (by rw [hl.out]; omega) (by rw [hl.out]; omega))
      obtain ⟨pp, ss, s0, s1, hS⟩ := h3
      clear hr x1 x0 hs
      go_wp2_with (first
        | (refine stoI hS2 1 rfl y (by rw [List.length_set, hl.out]; exact hyk) rfl _ _ rfl rfl _ rfl ?_; intro w3 hS3)
        | (refine stoI hS 1 rfl (j - 1) (by rw [hl.out]; omega) rfl _ _ rfl rfl _ rfl ?_; intro w2 hS2))
      go_roundw
      case rel => exact ⟨j - 1, swp2 xs (j - 1) y, by omega, by go_num, by unfold Hid; rw [swp2_len]; exact hl.out, Hsw.out, pp, ss, s0, by omega, hS3⟩
      case measure => simp [intOf]; omega
    · go_wp2_with fail
      go_ret
      exact ⟨_, xs, rfl, hl.out, hp.out, hs.mono (by omega)⟩
end Go.Proofs.Ytejncephbafcdaa
end

section
/- Walks: images of designs under drawn permutations. -/
namespace Go.Proofs.Ytejncephbafcdaa
set_option linter.unusedSimpArgs false
set_option linter.unusedVariables false
open Go.RowKit
attribute [local go_sem ↓] Go.wp_at_zero Go.wp_at_succ

/-- the images of the first points of a set -/
def imgS (p ss : List Int) : Nat → List Int
  | 0 => []
  | k + 1 => putL (imgS p ss k) (nth p (nth ss k).toNat)
def imgB (p ss : List Int) : List Int := imgS p ss ss.length
theorem imgS_len (p ss : List Int) : ∀ k, (imgS p ss k).length ≤ k
  | 0 => Nat.le_refl _
  | k + 1 => by rw [imgS]; have := putL_len (imgS p ss k) (nth p (nth ss k).toNat); have := imgS_len p ss k; omega
set_option maxHeartbeats 2000000 in
set_option maxRecDepth 100000 in
theorem l04Image_c (vp vs : Value) (p ss : List Int) (w : World) (hp : RdI w vp p) (hs : RdI w vs ss) (hb : ∀ x ∈ ss, 0 ≤ x ∧ x < p.length) (hl : ss.length ≤ 1000) :
    Calls Try.prog 121 #[vp, vs] w (MakesI w (imgB p ss)) := by
  have hln := hs.len
  have hix := hs.ix
  have hxp := hp.ixe
  have Hb := Lib.hid hb
  have h0 := St.emp0 (w := w)
  clear hb
  go_enter Try.func121, Try.ntmps121
  go_wp2_with fail
  go_loopw [5, 6] (fun o i wr => ∃ k : Nat, k ≤ ss.length ∧ i = .int .i64 k ∧ St w.heap.size w wr [row 2 o (iv (imgS p ss k))]) (fun _ i _ => ss.length - (intOf i).toNat)
  case atStart => exact ⟨0, by omega, rfl, h0⟩
  case round =>
    clear h0
    obtain ⟨k, hk, rfl, hS⟩ := hrel
    by_cases hlt : k < ss.length
    · have ck := (hS.oldI hs).cell k hlt
      have hbk := Hb.out _ (nth_mem hlt)
      obtain ⟨x, hx⟩ := Int.eq_ofNat_of_zero_le hbk.1
      rw [hx] at ck
      have hxl : x < p.length := by omega
      have cx := (hS.oldI hp).cell x hxl
      have xx := hxp (x : Int) x rfl hxl
      have hst : Hid (imgS p ss (k + 1) = putL (imgS p ss k) (nth p x)) := by rw [Hid, imgS, hx]; rfl
      have hil := imgS_len p ss k
      have hrx := hS.rdI 0 rfl
      clear hx hbk
      go_wp2_with fail
      refine (l00PutX_c u5 (imgS p ss k) (nth p x) _ hrx (by omega)).mono ?_
      rintro e w5 ⟨v5, rfl, h6⟩
      have h7 := (hS.call h6).sub (L' := [row 2 v5 (iv (putL (imgS p ss k) (nth p x)))]) (List.sublist_append_right _ _)
      clear hS h6 hrx
      go_wp2_with fail
      go_roundw
      case rel => exact ⟨k + 1, by omega, by go_num, by rw [hst.out]; exact h7⟩
      case measure => simp [intOf]; omega
    · obtain rfl : k = ss.length := by omega
      go_wp2_with fail
      go_ret
      exact ⟨_, rfl, hS⟩
def imgL (p : List Int) (A : List (List Int)) : List (List Int) := A.map (imgB p)
theorem imgL_take {p : List Int} {A : List (List Int)} {k : Nat} (h : k < A.length) : imgL p (A.take (k + 1)) = imgL p (A.take k) ++ [imgB p (xat A k)] := by
  rw [imgL, take_xat h, List.map_append]; rfl
/-- a design of its own, by value -/
def MakesDV (w : World) (P : Int) (A : List (List Int)) (e : Ending) (w' : World) : Prop := ∃ v us, e = .returned (dv P v) ∧ us.length = A.length ∧ St w.heap.size w w' (own2 v us A)
set_option maxHeartbeats 4000000 in
set_option maxRecDepth 100000 in
theorem l10Image_c (P : Nat) (g : Nat) (v : Value) (us : List Value) (A : List (List Int)) (vp : Value) (p : List Int) (w : World) (hv : RII w v us A) (hbd : BoxD w g P v) (hp : RdI w vp p) (hD : dOk P A = true) (hpl : p.length = P) :
    Calls Try.prog 75 #[.pointer (some ⟨g, 0, none⟩), vp] w (MakesDV w P (srtL (imgL p A))) := by
  have hDk := dOk_t hD
  have hDl := hDk.len
  have hPl := hDk.le
  have HI := Lib.hid (fun k (hk : k < A.length) => (show (∀ x ∈ xat A k, 0 ≤ x ∧ x < p.length) ∧ (xat A k).length ≤ 32 from by
    have hi := hDk.inc _ (xat_mem hk)
    refine ⟨fun x hx => by have := incB_gt hi x hx; omega, ?_⟩
    have := inc_len hi (by omega); omega))
  clear hDk hD
  have hln := hv.len
  have hixe := hv.ixe
  have hS0 := (St.refl w).newboxF 41 #[.int .i64 0, .slice none 0 0]
  have hS1 : St w.heap.size w ((w.alloc (.cells #[.int .i64 0, .slice none 0 0] 41)).alloc (.cells #[] 52)) (box 41 w.heap.size [.int .i64 0, .slice none 0 0] :: own2 (.slice (some ⟨w.heap.size + 1, 0, none⟩) 0 0) [] (imgL p (A.take 0))) := by
    have := hS0.new 52 #[] (by simp)
    simp only [World.size_alloc, List.size_toArray, List.length_nil] at this
    exact this
  clear hS0
  go_enter Try.func75, Try.ntmps75
  go_wp2_with fail
  go_loopw [5, 6] (fun o i wr => ∃ (k : Nat) (uo : List Value), k ≤ A.length ∧ i = .int .i64 k ∧ Hid (uo.length = (imgL p (A.take k)).length) ∧ St w.heap.size w wr (box 41 w.heap.size [.int .i64 0, .slice none 0 0] :: own2 o uo (imgL p (A.take k)))) (fun _ i _ => A.length - (intOf i).toNat)
  case atStart => exact ⟨0, [], by omega, rfl, rfl, hS1⟩
  case round =>
    clear hS1
    obtain ⟨k, uo, hk, rfl, hl, hS⟩ := hrel
    have b0 := (hS.oldBoxD hbd).1
    have b1 := (hS.oldBoxD hbd).2
    by_cases hlt : k < A.length
    · have ck := (hS.oldII hv).cell k hlt
      have xk := hixe (k : Int) k rfl hlt
      have rk := Lib.hid ((hS.oldII hv).row k hlt)
      have rp := Lib.hid (hS.oldI hp)
      have Hk := Lib.hid (imgL_take (p := p) hlt)
      have hlk : Hid ((imgL p (A.take k)).length = k) := by unfold Hid imgL; rw [List.length_map, List.length_take]; omega
      obtain ⟨hi1, hi2⟩ := HI.out k hlt
      have hcall := Lib.hid (l04Image_c _ _ _ _ _ rp.out rk.out hi1 (by omega))
      clear hi1 hi2
      go_wp2_with fail
      refine hcall.out.mono ?_
      rintro e w5 ⟨v5, rfl, h5⟩
      have hsl := (h5.rdI (xs := imgB p (xat A k)) 0 rfl).sl
      have hone := Lib.hid hsl.one
      obtain ⟨ua, uc, hle⟩ := hsl.sh
      rw [iv_len] at hle
      subst hle
      have hS5 := hS.call h5
      simp only [List.cons_append] at hS5
      clear hsl hS h5 hcall
      go_wp2_with (at_builtin; refine appII hS5 1 rfl (by rw [hl.out, hlk.out]; omega) rfl _ _ rfl rfl _ hone.out rfl ?_; intro v6 w6 hS6)
      go_roundw
      case rel =>
        refine ⟨k + 1, uo ++ [.slice ua (imgB p (xat A k)).length uc], by omega, by go_num, by rw [Hid, Hk.out]; simp [hl.out], ?_⟩
        rw [Hk.out, own2, rowsI_app hl.out]
        have h9 : St w.heap.size w w6 (box 41 w.heap.size [.int .i64 0, .slice none 0 0] :: row 52 v6 (uo ++ [.slice ua (imgB p (xat A k)).length uc]) :: (rowsI uo (imgL p (A.take k)) ++ [row 2 (.slice ua (imgB p (xat A k)).length uc) (iv (imgB p (xat A k)))])) := hS6
        exact h9
      case measure => simp [intOf]; omega
    · obtain rfl : k = A.length := by omega
      rw [List.take_length] at hS hl
      have hll : (imgL p A).length = A.length := by simp [imgL]
      have ro := (hS.sub (List.sublist_cons_self _ _)).rii hl.out
      have HSt := Lib.hid (l10Sort_c u5 uo (imgL p A) wr ro (by omega) (fun xs hx => by
        obtain ⟨b, hb, rfl⟩ := List.mem_map.1 hx
        obtain ⟨j, hj, rfl⟩ := List.getElem_of_mem hb
        have := (HI.out j hj).2
        rw [xat_eq hj] at this
        exact Nat.le_trans (imgS_len p _ _) (by omega)))
      have b0 := (hS.oldBoxD hbd).1
      have hSd := hS.drew
      clear ro
      go_wp2_with fail
      refine regionG (fun w' => w'.cell? ⟨g, 0, none⟩ = some (.int .i64 P)) 7 (by kernel_rfl) (cell_dr b0) (fun hHeld => ?_)
      refine takeP (i := 0) (v := ?_) rfl (by kernel_rfl) (fun _ _ _ h => h) (by rfl) ?_ (by assumption) ?_
      case refine_2 => (intro w'; go_simp; first | done | with_reducible rfl)
      try simp only [Act.put, List.setIfInBounds_toArray, List.set_cons_zero, List.set_cons_succ]
      refine takeP (i := 1) (v := ?_) rfl (by kernel_rfl) (fun _ _ _ h => h) (by rfl) ?_ (by assumption) ?_
      case refine_2 => (intro w'; go_simp; first | done | with_reducible rfl)
      try simp only [Act.put, List.setIfInBounds_toArray, List.set_cons_zero, List.set_cons_succ]
      refine takeP (i := 2) (v := ?_) rfl (by kernel_rfl) (fun _ _ _ h => h) (by rfl) ?_ (by assumption) ?_
      case refine_2 => (intro w'; go_simp; first | done | with_reducible rfl)
      try simp only [Act.put, List.setIfInBounds_toArray, List.set_cons_zero, List.set_cons_succ]
      refine takeH (i := 3) [6] (v := ?_) rfl (by kernel_rfl) (fun _ _ _ h => h) (by rfl) ?_ (by assumption) ?_
      case refine_2 => (intro w' hSw; (try dsimp only at hSw); go_simp; first | done | with_reducible rfl)
      try simp only [Act.put, List.setIfInBounds_toArray, List.set_cons_zero, List.set_cons_succ]
      refine takeP (i := 4) (v := ?_) rfl (by kernel_rfl) (fun _ _ _ h => h) (by rfl) ?_ (by assumption) ?_
      case refine_2 => (intro w'; go_simp; first | done | with_reducible rfl)
      try simp only [Act.put, List.setIfInBounds_toArray, List.set_cons_zero, List.set_cons_succ]
      refine readyG (rs := [5]) (by kernel_rfl) (by simp) ?_
      refine AllG.cons rfl (fun K hK => ?_) AllG.nil
      go_simp
      have HSt2 := Lib.hid (l10Sort_c u5 uo (imgL p A) _ ((hSd.sub (List.sublist_cons_self _ _)).rii hl.out) (by omega) (fun xs hx => by
        obtain ⟨b, hb, rfl⟩ := List.mem_map.1 hx
        obtain ⟨j, hj, rfl⟩ := List.getElem_of_mem hb
        have := (HI.out j hj).2
        rw [xat_eq hj] at this
        exact Nat.le_trans (imgS_len p _ _) (by omega)))
      refine HSt2.out.mono ?_
      clear HSt2 HSt
      rintro e w5 ⟨v5, us5, rfl, hl5, h5⟩
      obtain ⟨ua, uc, hv5⟩ := (h5.rd 0 (e := 52) (v := v5) (us := us5) rfl).sl.sh
      rw [hl5, srtL_len, hll] at hv5
      subst hv5
      have hB5 := hSd.call h5
      have e0 := (hB5.oldBoxD hbd).1
      have c0 := hB5.bcell 0 rfl 0 rfl
      have c1 := hB5.bcell 0 rfl 1 rfl
      have f0 := hB5.bfree 0 rfl
      refine hK.out _ _ e0 (fun hHeld => ?_)
      clear hK K
      try simp only [Act.put, List.setIfInBounds_toArray, List.set_cons_zero, List.set_cons_succ]
      refine takeP (i := 6) (v := ?_) rfl (by kernel_rfl) (fun _ _ _ h => h) (by rfl) ?_ (by assumption) ?_
      case refine_2 => (intro w'; go_simp; first | done | with_reducible rfl)
      try simp only [Act.put, List.setIfInBounds_toArray, List.set_cons_zero, List.set_cons_succ]
      refine readyG (rs := [7]) (by kernel_rfl) (by simp) ?_
      refine AllG.last rfl (by kernel_rfl) (fun K hK => ?_) AllG.nil
      go_simp
      refine hK.out _ _ ?_
      clear hK K
      try simp only [Act.put, List.setIfInBounds_toArray, List.set_cons_zero, List.set_cons_succ]
      refine doneG (by kernel_rfl) ?_ _
      refine NoPanic.normal ?_
      have h6 := (hB5.bstore 0 rfl 0 (.int .i64 P)).bstore 0 rfl 1 (.slice ua A.length uc)
      have d0 := h6.bcell 0 rfl 0 rfl
      have d1 := h6.bcell 0 rfl 1 rfl
      clear hB5 h5 c0 c1 e0 f0 hS hSd
      go_wp2_with fail
      refine bodyPost_ret (v := .agg #[.int .i64 P, .slice ua A.length uc]) (by simp [results, Try.results75, go_sem, d0, d1]) rfl ?_
      exact ⟨_, us5, rfl, hl5, h6.sub (L' := own2 (.slice ua A.length uc) us5 (srtL (imgL p A))) ((List.sublist_append_right (own2 u5 uo (imgL p A)) _).trans (List.sublist_cons_self _ _))⟩
/-- a design that is read, and nothing else is changed -/
def MakesDR (w : World) (P : Nat) (A : List (List Int)) (e : Ending) (w' : World) : Prop := ∃ (p : List Int) (v : Value) (us : List Value), p.length = P ∧ IsP p ∧ e = .returned (dv P v) ∧ RII w' v us (srtL (imgL p A)) ∧ St w.heap.size w w' []
set_option maxHeartbeats 4000000 in
set_option maxRecDepth 100000 in
theorem V8Image_c (w : World) (cv : Value) (bs : List UInt8) (P : Nat) (v : Value) (us : List Value) (A : List (List Int)) (hb : RdB w cv bs) (hv : RII w v us A) (hD : dOk P A = true) :
    Calls Try.prog 30 #[cv, dv P v] w (MakesDR w P A) := by
  obtain ⟨a, c, hsh⟩ := hv.1.sl.sh
  rw [hv.2.1] at hsh
  subst hsh
  have hPl := (dOk_t hD).le
  have hS0 := ((St.refl w).newboxF 41 #[.int .i64 P, .slice a A.length c]).newboxF 41 #[.int .i64 0, .slice none 0 0]
  simp only [World.size_alloc] at hS0
  unfold dv
  go_enter Try.func30, Try.ntmps30
  go_wp2_with fail
  refine (l00FromS w _ cv bs _ hb hS0).mono ?_
  rintro e w1 ⟨g, rfl, h1⟩
  have b0 := h1.box 1 (e := 41) rfl 0 rfl
  go_wp2_with fail
  refine (l04DrawPerm_c w _ cv bs g _ _ P hb h1 (by omega) (by omega)).mono ?_
  rintro e w2 ⟨vp, p, rfl, hpl, hpp, h2⟩
  have Hp := Lib.hid (And.intro hpl hpp)
  have hbx : BoxD w2 w.heap.size P (.slice a A.length c) := ⟨h2.box 2 (e := 41) rfl 0 rfl, h2.box 2 (e := 41) rfl 1 rfl⟩
  have HK := Lib.hid (l10Image_c P w.heap.size (.slice a A.length c) us A vp p w2 (h2.st.oldII hv) hbx (h2.rdI 0 rfl) hD hpl)
  clear b0 h1 hpl hpp hbx
  go_wp2_with fail
  refine HK.out.mono ?_
  clear HK
  rintro e w5 ⟨v5, us5, rfl, hl5, h5⟩
  obtain ⟨ua, uc, hv5⟩ := (h5.rd 0 (e := 52) (v := v5) (us := us5) rfl).sl.sh
  rw [hl5] at hv5
  generalize hSe : srtL (imgL p A) = S at *
  have HSe := Lib.hid hSe
  clear hSe
  subst hv5
  have h6 := ((h2.call h5).sub (L' := box 41 (w.heap.size + 1) [.int .i64 0, .slice none 0 0] :: box 41 w.heap.size [.int .i64 P, .slice a A.length c] :: own2 (.slice ua S.length uc) us5 S) (List.sublist_cons_self _ _))
  have c0 := h6.box 0 (e := 41) rfl 0 rfl
  have c1 := h6.box 0 (e := 41) rfl 1 rfl
  have f0 := h6.bfree 0 (e := 41) rfl
  have h7 := (h6.bstore 0 (e := 41) rfl 0 (.int .i64 P)).bstore 0 (e := 41) rfl 1 (.slice ua S.length uc)
  simp only [List.set_cons_zero, List.set_cons_succ] at h7
  have d0 := h7.box 0 (e := 41) rfl 0 rfl
  have d1 := h7.box 0 (e := 41) rfl 1 rfl
  have hR7 := h7.riiS (v := .slice ua S.length uc) (us := us5) (A := S) ((List.sublist_cons_self _ _).trans (List.sublist_cons_self _ _)) hl5
  have HR := Lib.hid (And.intro hR7 (h7.st.sub (List.nil_sublist _)))
  clear h2 h5 h6 h7 hR7
  unfold dv
  go_wp2_with fail
  refine bodyPost_ret (v := .agg #[.int .i64 P, .slice ua S.length uc]) (by simp [results, Try.results30, go_sem, d0, d1]) rfl ?_
  exact ⟨p, _, us5, Hp.out.1, Hp.out.2, rfl, by rw [HSe.out]; exact HR.out.1, HR.out.2⟩
end Go.Proofs.Ytejncephbafcdaa
end

section
/- Plain: sums of the numbers of points and pairs; images of designs. -/
namespace Go.Proofs.Ytejncephbafcdaa
set_option linter.unusedSimpArgs false
set_option linter.unusedVariables false

theorem sumL_cat : ∀ a b : List Int, sumL (a ++ b) = sumL a + sumL b
  | [], b => by simp [sumL]
  | x :: r, b => by rw [List.cons_append, sumL, sumL, sumL_cat r b]; omega
theorem sumL_add {α : Type} (f g : α → Int) : ∀ l : List α, sumL (l.map fun x => f x + g x) = sumL (l.map f) + sumL (l.map g)
  | [] => rfl
  | x :: r => by simp only [List.map_cons, sumL]; rw [sumL_add f g r]; omega
theorem sumL_zero {α : Type} : ∀ l : List α, sumL (l.map fun _ => (0 : Int)) = 0
  | [] => rfl
  | x :: r => by simp only [List.map_cons, sumL]; rw [sumL_zero r]; omega
theorem sumL_flat : ∀ l : List (List Int), sumL l.flatten = sumL (l.map sumL)
  | [] => rfl
  | x :: r => by rw [List.flatten_cons, sumL_cat, List.map_cons, sumL, sumL_flat r]
def lens (A : List (List Int)) : List Int := A.map fun b => (b.length : Int)
def twos (A : List (List Int)) : List Int := A.map fun b => (b.length : Int) * (b.length - 1) / 2
def indP (b : List Int) (x : Nat) : Int := if (x : Int) ∈ b then 1 else 0
theorem blw_ind {b : List Int} (hp : b.Pairwise (· < ·)) (x : Nat) : ((blw b (x + 1)).length : Int) = (blw b x).length + indP b x := by
  rw [blw_step hp, List.length_append]
  unfold indP
  split <;> simp
theorem ind_sum {P : Nat} {b : List Int} (h : Inc P b) : ∀ y, sumL ((List.range y).map (indP b)) = (blw b y).length
  | 0 => by rw [blw_0 h]; rfl
  | y + 1 => by rw [List.range_succ, List.map_append, sumL_cat, ind_sum h y, blw_ind (incB_pw2 h)]; simp [sumL]
theorem repF_cons (b : List Int) (A : List (List Int)) (x : Nat) : repF (b :: A) x = indP b x + repF A x := by
  unfold repF cntD indP
  by_cases h : (x : Int) ∈ b
  · rw [List.filter_cons_of_pos (by simpa using h), if_pos h]; simp; omega
  · rw [List.filter_cons_of_neg (by simpa using h), if_neg h]; simp
theorem rep_sum {P : Nat} : ∀ {A : List (List Int)}, (∀ b ∈ A, Inc P b) → sumL (repL P A) = sumL (lens A)
  | [], _ => by unfold repL; rw [show (List.range P).map (repF []) = (List.range P).map fun _ => (0 : Int) from List.map_congr_left fun x _ => rfl, sumL_zero]; rfl
  | b :: A, h => by
    have ih := rep_sum (A := A) fun c hc => h c (List.mem_cons_of_mem _ hc)
    have hb := h b List.mem_cons_self
    unfold repL at ih ⊢
    rw [show (List.range P).map (repF (b :: A)) = (List.range P).map fun x => indP b x + repF A x from List.map_congr_left fun x _ => repF_cons b A x, sumL_add, ih]
    show sumL ((List.range P).map (indP b)) + _ = _
    rw [ind_sum hb, blw_all hb]; rfl
def ind2 (b : List Int) (x y : Nat) : Int := if (x : Int) ∈ b ∧ (y : Int) ∈ b then 1 else 0
theorem parF_cons (b : List Int) (A : List (List Int)) (x y : Nat) : parF (b :: A) x y = ind2 b x y + parF A x y := by
  unfold parF cntD ind2
  by_cases h : (x : Int) ∈ b ∧ (y : Int) ∈ b
  · rw [List.filter_cons_of_pos (by simpa using h), if_pos h]; simp; omega
  · rw [List.filter_cons_of_neg (by simpa using h), if_neg h]; simp
theorem ind2_row {P : Nat} {b : List Int} (h : Inc P b) (x : Nat) : ∀ n, sumL ((List.range n).map fun t => ind2 b x (x + 1 + t)) = indP b x * ((blw b (x + 1 + n)).length - (blw b (x + 1)).length)
  | 0 => by simp [sumL]
  | n + 1 => by
    rw [List.range_succ, List.map_append, sumL_cat, ind2_row h x n]
    have := blw_ind (incB_pw2 h) (x + 1 + n)
    rw [show x + 1 + (n + 1) = x + 1 + n + 1 by omega, this]
    simp only [List.map_cons, List.map_nil, sumL]
    have e2 : ind2 b x (x + 1 + n) = indP b x * indP b (x + 1 + n) := by
      unfold ind2 indP
      by_cases h1 : (x : Int) ∈ b
      · by_cases h2 : ((x + 1 + n : Nat) : Int) ∈ b
        · rw [if_pos (And.intro h1 h2), if_pos h1, if_pos h2]; rfl
        · rw [if_neg (fun h' : _ ∧ _ => h2 h'.2), if_pos h1, if_neg h2]; rfl
      · rw [if_neg (fun h' : _ ∧ _ => h1 h'.1), if_neg h1]; simp
    rw [e2]; grind
theorem ind2_sum {P : Nat} {b : List Int} (h : Inc P b) : ∀ y, y ≤ P → 2 * sumL ((List.range y).map fun x => indP b x * ((b.length : Int) - (blw b (x + 1)).length)) = 2 * (blw b y).length * b.length - (blw b y).length * ((blw b y).length + 1)
  | 0, _ => by rw [blw_0 h]; simp [sumL]
  | y + 1, hy => by
    rw [List.range_succ, List.map_append, sumL_cat, Int.mul_add, ind2_sum h y (by omega)]
    have := blw_ind (incB_pw2 h) y
    simp only [List.map_cons, List.map_nil, sumL]
    rw [this]
    generalize ((blw b y).length : Int) = c
    generalize (b.length : Int) = k
    unfold indP
    by_cases h1 : (y : Int) ∈ b
    · rw [if_pos h1]; grind
    · rw [if_neg h1]; grind
theorem par_block {P : Nat} {b : List Int} (h : Inc P b) : sumL ((List.range P).map fun x => sumL ((List.range (P - (x + 1))).map fun t => ind2 b x (x + 1 + t))) = (b.length : Int) * (b.length - 1) / 2 := by
  have e : ((List.range P).map fun x => sumL ((List.range (P - (x + 1))).map fun t => ind2 b x (x + 1 + t))) = (List.range P).map fun x => indP b x * ((b.length : Int) - (blw b (x + 1)).length) := by
    refine List.map_congr_left fun x hx => ?_
    have hx := List.mem_range.1 hx
    rw [ind2_row h, show x + 1 + (P - (x + 1)) = P by omega, blw_all h]
  rw [e]
  have := ind2_sum h P (Nat.le_refl _)
  rw [blw_all h] at this
  generalize sumL ((List.range P).map fun x => indP b x * ((b.length : Int) - (blw b (x + 1)).length)) = S at *
  generalize (b.length : Int) = k at *
  have h2 : k * (k - 1) = 2 * S := by rw [this]; grind
  rw [h2]; omega
theorem par_sum {P : Nat} : ∀ {A : List (List Int)}, (∀ b ∈ A, Inc P b) → sumL (parL P A) = sumL (twos A)
  | [], _ => by
    unfold parL
    rw [sumL_flat, List.map_map, show (List.range P).map (sumL ∘ parR P []) = (List.range P).map fun _ => (0 : Int) from List.map_congr_left fun x _ => by
      show sumL ((List.range (P - (x + 1))).map fun t => parF [] x (x + 1 + t)) = 0
      rw [show ((List.range (P - (x + 1))).map fun t => parF [] x (x + 1 + t)) = (List.range (P - (x + 1))).map fun _ => (0 : Int) from List.map_congr_left fun t _ => rfl, sumL_zero], sumL_zero]; rfl
  | b :: A, h => by
    have ih := par_sum (A := A) fun c hc => h c (List.mem_cons_of_mem _ hc)
    have hb := h b List.mem_cons_self
    unfold parL at ih ⊢
    rw [sumL_flat, List.map_map] at ih ⊢
    rw [show (List.range P).map (sumL ∘ parR P (b :: A)) = (List.range P).map fun x => sumL ((List.range (P - (x + 1))).map fun t => ind2 b x (x + 1 + t)) + (sumL ∘ parR P A) x from List.map_congr_left fun x _ => by
      show sumL ((List.range (P - (x + 1))).map fun t => parF (b :: A) x (x + 1 + t)) = _ + sumL ((List.range (P - (x + 1))).map fun t => parF A x (x + 1 + t))
      rw [← sumL_add]
      congr 1
      exact List.map_congr_left fun t _ => parF_cons b A x (x + 1 + t), sumL_add, ih, par_block hb]
    rfl
end Go.Proofs.Ytejncephbafcdaa
end

section
/- Plain: images of balanced designs have the same parameters. -/
namespace Go.Proofs.Ytejncephbafcdaa
set_option linter.unusedSimpArgs false
set_option linter.unusedVariables false

theorem putL_mem : ∀ (xs : List Int) (n y : Int), y ∈ putL xs n ↔ y = n ∨ y ∈ xs
  | [], n, y => by simp [putL]
  | x :: r, n, y => by
    rw [putL]
    split
    · simp
    · split
      · rename_i h; subst h
        simp only [List.mem_cons]
        constructor
        · exact .inr
        · rintro (e | e)
          · exact .inl e
          · exact e
      · simp only [List.mem_cons, putL_mem r n y]
        constructor
        · rintro (e | e | e)
          · exact .inr (.inl e)
          · exact .inl e
          · exact .inr (.inr e)
        · rintro (e | e | e)
          · exact .inr (.inl e)
          · exact .inl e
          · exact .inr (.inr e)
theorem imgS_mem (p ss : List Int) (y : Int) : ∀ k, y ∈ imgS p ss k ↔ ∃ j, j < k ∧ nth p (nth ss j).toNat = y
  | 0 => by simp [imgS]
  | k + 1 => by
    rw [imgS, putL_mem, imgS_mem p ss y k]
    constructor
    · rintro (e | ⟨j, hj, e⟩)
      · exact ⟨k, by omega, e.symm⟩
      · exact ⟨j, by omega, e⟩
    · rintro ⟨j, hj, e⟩
      by_cases h : j = k
      · subst h; exact .inl e.symm
      · exact .inr ⟨j, by omega, e⟩
theorem IsP.onto2 {xs : List Int} (h : IsP xs) {v : Nat} (hv : v < xs.length) : ∃ j, j < xs.length ∧ nth xs j = v := by
  have : (v : Int) ∈ xs := h.perm.mem_iff.2 (by simp only [iot, List.mem_map, List.mem_range]; exact ⟨v, hv, rfl⟩)
  obtain ⟨j, hj, e⟩ := List.getElem_of_mem this
  exact ⟨j, hj, by rw [nth_eq hj]; exact e⟩
section
variable {p : List Int} {P : Nat} {b : List Int}
theorem imgB_at (hp : IsP p) (hl : p.length = P) (h : Inc P b) {j : Nat} (hj : j < b.length) : ∃ x : Nat, nth b j = x ∧ x < P ∧ 0 ≤ nth p x ∧ nth p x < P := by
  obtain ⟨x, hx, hxP⟩ := h.nat hj
  have := hp.lt x (by omega)
  exact ⟨x, hx, hxP, this.1, by rw [hl] at this; exact this.2⟩
theorem imgB_inc (hp : IsP p) (hl : p.length = P) (h : Inc P b) : incB (-1) P (imgB p b) = true := by
  have : ∀ k, k ≤ b.length → incB (-1) P (imgS p b k) = true := by
    intro k
    induction k with
    | zero => intro _; rfl
    | succ k ih =>
      intro hk
      obtain ⟨x, hx, hxP, h1, h2⟩ := imgB_at hp hl h (show k < b.length by omega)
      rw [imgS, hx, Int.toNat_natCast]
      exact putL_inc (ih (by omega)) (by omega) h2
  exact this _ (Nat.le_refl _)
theorem imgB_mem (hp : IsP p) (hl : p.length = P) (h : Inc P b) {x : Nat} (hx : x < P) : nth p x ∈ imgB p b ↔ (x : Int) ∈ b := by
  unfold imgB
  rw [imgS_mem]
  constructor
  · rintro ⟨j, hj, e⟩
    obtain ⟨y, hy, hyP, _, _⟩ := imgB_at hp hl h hj
    rw [hy, Int.toNat_natCast] at e
    have := hp.inj y x (by omega) (by omega) e
    subst this
    rw [← hy]; exact nth_mem hj
  · intro hm
    obtain ⟨j, hj, e⟩ := List.getElem_of_mem hm
    exact ⟨j, hj, by rw [nth_eq hj, e, Int.toNat_natCast]⟩
theorem imgB_len (hp : IsP p) (hl : p.length = P) (h : Inc P b) : (imgB p b).length = b.length := by
  have hn1 : (imgB p b).Nodup := pw_nodup (incB_pw (imgB_inc hp hl h))
  have hn2 : (b.map fun y => nth p y.toNat).Nodup := by
    rw [List.nodup_iff_pairwise_ne, List.pairwise_map, List.pairwise_iff_getElem]
    intro i j hi hj hij e
    obtain ⟨x, hx, hxP, _, _⟩ := imgB_at hp hl h hi
    obtain ⟨y, hy, hyP, _, _⟩ := imgB_at hp hl h hj
    rw [← nth_eq hi, ← nth_eq hj, hx, hy, Int.toNat_natCast, Int.toNat_natCast] at e
    have := hp.inj x y (by omega) (by omega) e
    have := h.lt i j hij hj
    omega
  have hperm : (imgB p b).Perm (b.map fun y => nth p y.toNat) := by
    rw [List.perm_ext_iff_of_nodup hn1 hn2]
    intro y
    unfold imgB
    rw [imgS_mem, List.mem_map]
    constructor
    · rintro ⟨j, hj, e⟩; exact ⟨nth b j, nth_mem hj, e⟩
    · rintro ⟨z, hz, e⟩
      obtain ⟨j, hj, rfl⟩ := List.getElem_of_mem hz
      exact ⟨j, hj, by rw [nth_eq hj]; exact e⟩
  rw [hperm.length_eq, List.length_map]
end
theorem cntD_map {p q : List Int → Bool} {f : List Int → List Int} : ∀ {A : List (List Int)}, (∀ b ∈ A, q (f b) = p b) → cntD q (A.map f) = cntD p A
  | [], _ => rfl
  | b :: A, h => by
    have ih := cntD_map (p := p) (q := q) (f := f) (A := A) fun c hc => h c (List.mem_cons_of_mem _ hc)
    have hb := h b List.mem_cons_self
    unfold cntD at ih ⊢
    rw [List.map_cons]
    cases hp : p b
    · rw [List.filter_cons_of_neg (by rw [hb, hp]; decide), List.filter_cons_of_neg (by rw [hp]; decide)]; exact ih
    · rw [List.filter_cons_of_pos (by rw [hb, hp]), List.filter_cons_of_pos hp]
      simp only [List.length_cons]; push_cast; omega
section
variable {p : List Int} {P : Nat} {A : List (List Int)}
theorem img_rep (hp : IsP p) (hl : p.length = P) (hA : ∀ b ∈ A, Inc P b) {x y : Nat} (hx : x < P) (e : nth p x = y) : repF (srtL (imgL p A)) y = repF A x := by
  unfold repF
  rw [cntD_perm (srtL_perm _)]
  exact cntD_map fun b hb => by rw [← e]; exact decide_eq_decide.2 (imgB_mem hp hl (hA b hb) hx)
theorem img_par (hp : IsP p) (hl : p.length = P) (hA : ∀ b ∈ A, Inc P b) {x y x' y' : Nat} (hx : x < P) (hy : y < P) (e : nth p x = x') (e' : nth p y = y') : parF (srtL (imgL p A)) x' y' = parF A x y := by
  unfold parF
  rw [cntD_perm (srtL_perm _)]
  exact cntD_map fun b hb => by
    rw [← e, ← e', decide_eq_decide.2 (imgB_mem hp hl (hA b hb) hx), decide_eq_decide.2 (imgB_mem hp hl (hA b hb) hy)]
theorem parF_symm (A : List (List Int)) (x y : Nat) : parF A x y = parF A y x := by
  unfold parF; congr 1; funext b; rw [Bool.and_comm]
theorem parL_mem {P : Nat} {A : List (List Int)} {c : Int} : c ∈ parL P A ↔ ∃ x y, x < y ∧ y < P ∧ c = parF A x y := by
  unfold parL
  simp only [List.mem_flatten, List.mem_map, List.mem_range]
  constructor
  · rintro ⟨l, ⟨x, hx, rfl⟩, hc⟩
    unfold parR at hc
    simp only [List.mem_map, List.mem_range] at hc
    obtain ⟨t, ht, rfl⟩ := hc
    exact ⟨x, x + 1 + t, by omega, by omega, rfl⟩
  · rintro ⟨x, y, hxy, hy, rfl⟩
    refine ⟨parR P A x, ⟨x, by omega, rfl⟩, ?_⟩
    unfold parR
    simp only [List.mem_map, List.mem_range]
    exact ⟨y - (x + 1), by omega, by rw [show x + 1 + (y - (x + 1)) = y by omega]⟩
/-- all that FnDesigns says of the image of a balanced design in which all points occur equally often -/
theorem img_prm (hp : IsP p) (hl : p.length = P) (hok : dOk P A = true) (hb : prmB P A = true) (hr : ∀ x, x < P → repF A x = nth (repL P A) 0) :
    dOk P (srtL (imgL p A)) = true ∧ prmB P (srtL (imgL p A)) = true ∧ prmV P (srtL (imgL p A)) = prmV P A := by
  have hD := dOk_t hok
  have hA : ∀ b ∈ A, Inc P b := fun b hb' => inc_of (hD.inc b hb')
  have hb2 := hb
  unfold prmB at hb2
  simp only [Bool.and_eq_true, decide_eq_true_eq, List.all_eq_true] at hb2
  obtain ⟨⟨⟨⟨h1, h2⟩, h3⟩, h4⟩, h5⟩ := hb2
  have hIl : (srtL (imgL p A)).length = A.length := by rw [srtL_len, imgL, List.length_map]
  have hblk : ∀ b ∈ srtL (imgL p A), b.length = (xat A 0).length ∧ incB (-1) P b = true := fun b hb' => by
    obtain ⟨c, hc, rfl⟩ := List.mem_map.1 ((srtL_perm _).mem_iff.1 hb')
    refine ⟨?_, imgB_inc hp hl (hA c hc)⟩
    rw [imgB_len hp hl (hA c hc)]
    have := h4 c hc; simpa using this
  have hok' : dOk P (srtL (imgL p A)) = true := DOk.ok (DOk.mk' hD.pos hD.le (by rw [imgL, List.length_map]; exact hD.len) fun b hb' => by
    have := hblk b ((srtL_perm _).mem_iff.2 hb'); exact ⟨by omega, this.2⟩)
  have h0 : (xat (srtL (imgL p A)) 0).length = (xat A 0).length := (hblk _ (xat_mem (by omega))).1
  have hlam : ∀ c ∈ parL P (srtL (imgL p A)), c = nth (parL P A) 0 := fun c hc => by
    obtain ⟨x', y', hxy, hy, rfl⟩ := parL_mem.1 hc
    obtain ⟨x, hx, ex⟩ := hp.onto2 (v := x') (by omega)
    obtain ⟨y, hy', ey⟩ := hp.onto2 (v := y') (by omega)
    rw [img_par hp hl hA (by omega) (by omega) ex ey]
    have hne : x ≠ y := fun e => by subst e; omega
    rcases Nat.lt_or_gt_of_ne hne with h | h
    · have := h5 (parF A x y) (parL_mem.2 ⟨x, y, h, by omega, rfl⟩); simpa using this
    · rw [parF_symm]
      have := h5 (parF A y x) (parL_mem.2 ⟨y, x, h, by omega, rfl⟩); simpa using this
  have hpos := parL_pos (A := srtL (imgL p A)) h1
  have hl0 : nth (parL P (srtL (imgL p A))) 0 = nth (parL P A) 0 := hlam _ (nth_mem hpos)
  have hb' : prmB P (srtL (imgL p A)) = true := prm_yes ⟨h1, by omega, by rw [h0]; exact h3⟩ (fun k hk => by rw [h0]; exact (hblk _ (xat_mem hk)).1) (fun k hk => by rw [hl0]; exact hlam _ (nth_mem hk))
  refine ⟨hok', hb', ?_⟩
  rw [prm_val hb', prm_val hb, hIl, h0, hl0]
  have hr0 : nth (repL P (srtL (imgL p A))) 0 = nth (repL P A) 0 := by
    obtain ⟨x, hx, ex⟩ := hp.onto2 (v := 0) (by omega)
    rw [nth_eq (by rw [repL_len]; omega)]
    simp only [repL, List.getElem_map, List.getElem_range]
    rw [img_rep hp hl hA (by omega) ex]
    exact hr x (by omega)
  rw [hr0]
end
/-- the same of the known designs -/
def chkE (d : Nat × List (List Int)) : Bool := ((List.range d.1).all fun x => decide (repF d.2 x = nth (repL d.1 d.2) 0)) &&
  decide (nth (prmV d.1 d.2) 1 * nth (prmV d.1 d.2) 3 = nth (prmV d.1 d.2) 0 * nth (prmV d.1 d.2) 2) && decide (nth (prmV d.1 d.2) 2 * (nth (prmV d.1 d.2) 3 - 1) = nth (prmV d.1 d.2) 4 * (nth (prmV d.1 d.2) 0 - 1)) &&
  decide (nth (prmV d.1 d.2) 0 ≤ nth (prmV d.1 d.2) 1)
theorem kn_chkE : ∀ d ∈ knL, chkE d = true := by decide +kernel
end Go.Proofs.Ytejncephbafcdaa
end

section
/- Walks: numbers of points and pairs, incidence matrices, sorted designs and sums of designs, with codes. -/
namespace Go.Proofs.Ytejncephbafcdaa
set_option linter.unusedSimpArgs false
set_option linter.unusedVariables false
open Go.RowKit
attribute [local go_sem ↓] Go.wp_at_zero Go.wp_at_succ

def MakesIIC (w : World) (A : List (List Int)) (c : Int) (e : Ending) (w' : World) : Prop := ∃ v us, e = .returned (.tuple #[v, .int .i64 c]) ∧ us.length = A.length ∧ St w.heap.size w w' (own2 v us A)
def MakesIC' (w : World) (xs : List Int) (c : Int) (e : Ending) (w' : World) : Prop := ∃ v, e = .returned (.tuple #[v, .int .i64 c]) ∧ St w.heap.size w w' [row 2 v (iv xs)]
theorem IncidenceMatrix_c (P : Nat) (v : Value) (us : List Value) (A : List (List Int)) (w : World) (hv : RII w v us A) (hok : dOk P A = true) :
    Calls Try.prog 31 #[dv P v] w (MakesIIC w (incM P A) 0) := by
  obtain ⟨a, c, hsh⟩ := hv.1.sl.sh
  rw [hv.2.1] at hsh
  subst hsh
  have hS0 := (St.refl w).newboxF 41 #[.int .i64 P, .slice a A.length c]
  have b0 := hS0.bcell 0 rfl 0 rfl
  have b1 := hS0.bcell 0 rfl 1 rfl
  have K1 := Lib.hid (ValidDesign_c P (.slice a A.length c) us A _ (hS0.oldII hv))
  rw [hok] at K1
  have K2 := fun W h => Lib.hid (incidences_c P (.slice a A.length c) us A W h (dOk_t hok))
  unfold dv at K1 K2 ⊢
  go_enter Try.func31, Try.ntmps31
  go_wp2_with fail
  refine K1.out.mono ?_
  clear K1 b0 b1
  rintro e w2 ⟨rfl, h2⟩
  have hS2 := hS0.call0 h2
  have b0 := hS2.bcell 0 rfl 0 rfl
  have b1 := hS2.bcell 0 rfl 1 rfl
  clear hS0 h2
  go_wp2_with fail
  refine (K2 _ (hS2.oldII hv)).out.mono ?_
  rintro e w3 ⟨v3, us3, rfl, hl3, h3⟩
  have hS3 := hS2.call h3
  go_wp2_with fail
  refine bodyPost_ret (v := .tuple #[v3, .int .i64 0]) (by simp [results, Try.results31, go_sem]) rfl ?_
  exact ⟨v3, us3, rfl, hl3, hS3.sub (List.sublist_append_right _ _)⟩
theorem PairCounts_c (P : Nat) (v : Value) (us : List Value) (A : List (List Int)) (w : World) (hv : RII w v us A) (hok : dOk P A = true) :
    Calls Try.prog 32 #[dv P v] w (MakesIC' w (parL P A) 0) := by
  obtain ⟨a, c, hsh⟩ := hv.1.sl.sh
  rw [hv.2.1] at hsh
  subst hsh
  have hS0 := (St.refl w).newboxF 41 #[.int .i64 P, .slice a A.length c]
  have b0 := hS0.bcell 0 rfl 0 rfl
  have b1 := hS0.bcell 0 rfl 1 rfl
  have K1 := Lib.hid (ValidDesign_c P (.slice a A.length c) us A _ (hS0.oldII hv))
  rw [hok] at K1
  have K2 := fun W h => Lib.hid (pairCounts_c P (.slice a A.length c) us A W h (dOk_t hok))
  unfold dv at K1 K2 ⊢
  go_enter Try.func32, Try.ntmps32
  go_wp2_with fail
  refine K1.out.mono ?_
  clear K1 b0 b1
  rintro e w2 ⟨rfl, h2⟩
  have hS2 := hS0.call0 h2
  have b0 := hS2.bcell 0 rfl 0 rfl
  have b1 := hS2.bcell 0 rfl 1 rfl
  clear hS0 h2
  go_wp2_with fail
  refine (K2 _ (hS2.oldII hv)).out.mono ?_
  rintro e w3 ⟨v3, rfl, h3⟩
  have hS3 := hS2.call h3
  go_wp2_with fail
  refine bodyPost_ret (v := .tuple #[v3, .int .i64 0]) (by simp [results, Try.results32, go_sem]) rfl ?_
  exact ⟨v3, rfl, hS3.sub (List.sublist_append_right _ _)⟩
theorem ReplicationsOf_c (P : Nat) (v : Value) (us : List Value) (A : List (List Int)) (w : World) (hv : RII w v us A) (hok : dOk P A = true) :
    Calls Try.prog 28 #[dv P v] w (MakesIC' w (repL P A) 0) := by
  obtain ⟨a, c, hsh⟩ := hv.1.sl.sh
  rw [hv.2.1] at hsh
  subst hsh
  have hS0 := (St.refl w).newboxF 41 #[.int .i64 P, .slice a A.length c]
  have b0 := hS0.bcell 0 rfl 0 rfl
  have b1 := hS0.bcell 0 rfl 1 rfl
  have K1 := Lib.hid (ValidDesign_c P (.slice a A.length c) us A _ (hS0.oldII hv))
  rw [hok] at K1
  have K2 := fun W h => Lib.hid (replicationsOf_c P (.slice a A.length c) us A W h (dOk_t hok))
  unfold dv at K1 K2 ⊢
  go_enter Try.func28, Try.ntmps28
  go_wp2_with fail
  refine K1.out.mono ?_
  clear K1 b0 b1
  rintro e w2 ⟨rfl, h2⟩
  have hS2 := hS0.call0 h2
  have b0 := hS2.bcell 0 rfl 0 rfl
  have b1 := hS2.bcell 0 rfl 1 rfl
  clear hS0 h2
  go_wp2_with fail
  refine (K2 _ (hS2.oldII hv)).out.mono ?_
  rintro e w3 ⟨v3, rfl, h3⟩
  have hS3 := hS2.call h3
  go_wp2_with fail
  refine bodyPost_ret (v := .tuple #[v3, .int .i64 0]) (by simp [results, Try.results28, go_sem]) rfl ?_
  exact ⟨v3, rfl, hS3.sub (List.sublist_append_right _ _)⟩
theorem SortDesign_c (P : Nat) (v : Value) (us : List Value) (A : List (List Int)) (w : World) (hv : RII w v us A) (hok : dOk P A = true) :
    Calls Try.prog 34 #[.int .i64 P, v] w (MakesD w P A 0) := by
  have hD := dOk_t hok
  have hid := srtL_id hD.srt
  have hbl : (inB (P : Int) 1 32 && A.all (blkB P)) = true := by
    unfold dOk at hok
    simp only [Bool.and_eq_true] at hok ⊢
    exact hok.1.1
  have hS0 := (St.refl w).newboxF 41 #[.int .i64 0, .slice none 0 0]
  have K1 := Lib.hid (areBlocks_c v us A P _ (hS0.oldII hv))
  rw [hbl] at K1
  have K2 := fun W h => Lib.hid (sorted_c P v us A W h hD.len (fun xs hx => by
    have := inc_len (hD.inc _ hx) (by have := hD.pos; omega)
    have := hD.le; omega))
  rw [hid] at K2
  clear hD hid hbl
  go_enter Try.func34, Try.ntmps34
  go_wp2_with fail
  refine K1.out.mono ?_
  clear K1
  rintro e w2 ⟨rfl, h2⟩
  have hS2 := hS0.call0 h2
  clear hS0 h2
  go_wp2_with fail
  refine (K2 _ (hS2.oldII hv)).out.mono ?_
  rintro e w7 ⟨v7, us7, rfl, hl7, h7⟩
  obtain ⟨ua, uc, hv7⟩ := (h7.rd 0 (e := 52) (v := v7) (us := us7) rfl).sl.sh
  rw [hl7] at hv7
  subst hv7
  have hB := hS2.call h7
  have c0 := hB.bcell 0 rfl 0 rfl
  have c1 := hB.bcell 0 rfl 1 rfl
  have f0 := hB.bfree 0 rfl
  have h6 := (hB.bstore 0 rfl 0 (.int .i64 P)).bstore 0 rfl 1 (.slice ua A.length uc)
  have d0 := h6.bcell 0 rfl 0 rfl
  have d1 := h6.bcell 0 rfl 1 rfl
  clear hB h7 hS2
  unfold dv
  go_wp2_with fail
  refine bodyPost_ret (v := .tuple #[.agg #[.int .i64 P, .slice ua A.length uc], .int .i64 0]) (by simp [results, Try.results34, go_sem, d0, d1]) rfl ?_
  exact ⟨_, us7, rfl, hl7, h6.sub (List.sublist_cons_self _ _)⟩
end Go.Proofs.Ytejncephbafcdaa
end

section
/- Walks: the sum of a design and itself. -/
namespace Go.Proofs.Ytejncephbafcdaa
set_option linter.unusedSimpArgs false
set_option linter.unusedVariables false
open Go.RowKit
attribute [local go_sem ↓] Go.wp_at_zero Go.wp_at_succ

def MakesSum (w : World) (n : Nat) (e : Ending) (w' : World) : Prop := ∃ (P : Int) (v : Value) (us : List Value) (B : List (List Int)) (c : Int), e = .returned (.tuple #[dv P v, .int .i64 c]) ∧ us.length = B.length ∧ (c = 5 ∨ c = 0 ∧ B.length = 2 * n) ∧ St w.heap.size w w' (own2 v us B)
theorem getD_app2 {α : Type} (d : α) (A B : List α) (k : Nat) : (A ++ B).getD k d = if k < A.length then A.getD k d else B.getD (k - A.length) d := by
  simp only [List.getD_eq_getElem?_getD, List.getElem?_append]
  split <;> rfl
theorem rii_twice {w : World} {v v' : Value} {us : List Value} {A : List (List Int)} (h : RII w v us A) (h' : Rd w v' (us ++ us)) : RII w v' (us ++ us) (A ++ A) := by
  refine ⟨h', by rw [List.length_append, List.length_append, h.2.1], fun j hj => ?_⟩
  rw [List.length_append] at hj
  by_cases e : j < A.length
  · have e1 : vat (us ++ us) j = vat us j := by unfold vat; rw [getD_app2, if_pos (by rw [h.2.1]; exact e)]
    have e2 : xat (A ++ A) j = xat A j := by unfold xat; rw [getD_app2, if_pos e]
    rw [e1, e2]; exact h.row j e
  · have e1 : vat (us ++ us) j = vat us (j - A.length) := by unfold vat; rw [getD_app2, if_neg (by rw [h.2.1]; omega), h.2.1]
    have e2 : xat (A ++ A) j = xat A (j - A.length) := by unfold xat; rw [getD_app2, if_neg (by omega)]
    rw [e1, e2]; exact h.row _ (by omega)
set_option maxHeartbeats 8000000 in
set_option maxRecDepth 100000 in
theorem SumDesigns_c (P : Nat) (v : Value) (us : List Value) (A : List (List Int)) (w : World) (hv : RII w v us A) (hok : dOk P A = true) :
    Calls Try.prog 35 #[dv P v, dv P v] w (MakesSum w A.length) := by
  obtain ⟨a, c, hsh⟩ := hv.1.sl.sh
  rw [hv.2.1] at hsh
  subst hsh
  have hD := dOk_t hok
  have hDl := hD.len
  have hS0 := (((St.refl w).newboxF 41 #[.int .i64 P, .slice a A.length c]).newboxF 41 #[.int .i64 P, .slice a A.length c]).newboxF 41 #[.int .i64 0, .slice none 0 0]
  simp only [World.size_alloc] at hS0
  have K1 := fun W h => Lib.hid (ValidDesign_c P (.slice a A.length c) us A W h)
  rw [hok] at K1
  have b0 := hS0.bcell 2 rfl 0 rfl
  have b1 := hS0.bcell 2 rfl 1 rfl
  have f := ne_f (rfl : (P : Int) = P)
  have hrows := Lib.hid (fun xs (hx : xs ∈ A ++ A) => (show xs.length ≤ 1048576 from by
    have hx' : xs ∈ A := (List.mem_append.1 hx).elim id id
    have := inc_len (hD.inc _ hx') (by have := hD.pos; omega)
    have := hD.le; omega))
  have hone := Lib.hid (fun u (hu : u ∈ us) => (show u.oneCell' = true by
    obtain ⟨j, hj, rfl⟩ := List.getElem_of_mem hu
    rw [← vat_eq hj]
    exact (hv.row j (by rw [← hv.2.1]; exact hj)).sl.one))
  have hll := Lib.hid hv.2.1
  unfold dv at K1 ⊢
  clear hD
  go_enter Try.func35, Try.ntmps35
  go_wp2_with fail
  refine (K1 _ (hS0.oldII hv)).out.mono ?_
  rintro e w2 ⟨rfl, h2⟩
  have hS2 := hS0.call0 h2
  have b0 := hS2.bcell 1 rfl 0 rfl
  have b1 := hS2.bcell 1 rfl 1 rfl
  clear hS0 h2
  go_wp2_with fail
  refine (K1 _ (hS2.oldII hv)).out.mono ?_
  rintro e w3 ⟨rfl, h3⟩
  have hS3 := hS2.call0 h3
  clear hS2 h3 K1 b0 b1
  have b0 := hS3.bcell 2 rfl 0 rfl
  have b1 := hS3.bcell 2 rfl 1 rfl
  have d0 := hS3.bcell 1 rfl 0 rfl
  have d1 := hS3.bcell 1 rfl 1 rfl
  go_wp2_with fail
  refine regionG (fun w' => w'.cell? ⟨w.heap.size, 0, none⟩ = some (.int .i64 P) ∧ w'.cell? ⟨w.heap.size, 1, none⟩ = some (.slice a A.length c) ∧ w'.cell? ⟨w.heap.size + 1, 1, none⟩ = some (.slice a A.length c)) 11 (by kernel_rfl) ⟨cell_dr b0, cell_dr b1, cell_dr d1⟩ (fun hHeld => ?_)
  refine takeP (i := 0) (v := ?_) rfl (by kernel_rfl) (fun _ _ _ h => h) (by rfl) ?_ (by assumption) ?_
  case refine_2 => (intro w'; go_simp; first | done | with_reducible rfl)
  try simp only [Act.put, List.setIfInBounds_toArray, List.set_cons_zero, List.set_cons_succ]
  refine takeH (i := 1) [8, 9] (v := ?_) rfl (by kernel_rfl) (fun _ _ _ h => h) (by rfl) ?_ (by assumption) ?_
  case refine_2 => (intro w' hSw; (try dsimp only at hSw); go_simp; first | done | with_reducible rfl)
  try simp only [Act.put, List.setIfInBounds_toArray, List.set_cons_zero, List.set_cons_succ]
  refine takeP (i := 2) (v := ?_) rfl (by kernel_rfl) (fun _ _ _ h => h) (by rfl) ?_ (by assumption) ?_
  case refine_2 => (intro w'; go_simp; first | done | with_reducible rfl)
  try simp only [Act.put, List.setIfInBounds_toArray, List.set_cons_zero, List.set_cons_succ]
  refine takeH (i := 3) [6, 7, 8, 9] (v := ?_) rfl (by kernel_rfl) (fun _ _ _ h => h) (by rfl) ?_ (by assumption) ?_
  case refine_2 => (intro w' hSw; (try dsimp only at hSw); go_simp; first | done | with_reducible rfl)
  try simp only [Act.put, List.setIfInBounds_toArray, List.set_cons_zero, List.set_cons_succ]
  refine takeP (i := 4) (v := ?_) rfl (by kernel_rfl) (fun _ _ _ h => h) (by rfl) ?_ (by assumption) ?_
  case refine_2 => (intro w'; go_simp; first | done | with_reducible rfl)
  try simp only [Act.put, List.setIfInBounds_toArray, List.set_cons_zero, List.set_cons_succ]
  refine takeH (i := 5) [6, 7, 8, 9] (v := ?_) rfl (by kernel_rfl) (fun _ _ _ h => h) (by rfl) ?_ (by assumption) ?_
  case refine_2 => (intro w' hSw; (try dsimp only at hSw); go_simp; first | done | with_reducible rfl)
  try simp only [Act.put, List.setIfInBounds_toArray, List.set_cons_zero, List.set_cons_succ]
  have hSn := hS3.drew.new 26 #[.slice a A.length c, .slice a A.length c] (by simp [maxLen])
  simp only [List.size_toArray, List.length_cons, List.length_nil, Nat.zero_add, Nat.reduceAdd] at hSn
  refine readyG (rs := [6]) (by kernel_rfl) (by simp) ?_
  refine AllG.cons rfl (fun K hK => ?_) AllG.nil
  go_simp
  refine hK.out _ _ ⟨cell_al (cell_dr b0), cell_al (cell_dr b1), cell_al (cell_dr d1)⟩ (fun hHeld => ?_)
  clear hK K
  try simp only [Act.put, List.setIfInBounds_toArray, List.set_cons_zero, List.set_cons_succ]
  have hRVV : RVV _ (.slice (some ⟨w3.heap.size, 0, none⟩) 2 2) [.slice a A.length c, .slice a A.length c] [us, us] := ⟨hSn.rd 3 (e := 26) rfl, rfl, fun j hj => by
    have hr := (hSn.oldII hv).1
    match j, hj with
    | 0, _ => exact hr
    | 1, _ => exact hr⟩
  have KC := Lib.hid (ConcatII_c (.slice (some ⟨w3.heap.size, 0, none⟩) 2 2) _ _ _ hRVV (fun u hu x hx => by
    simp only [List.mem_cons, List.not_mem_nil, or_false, or_self] at hu
    subst hu; exact hone.out x hx) (by simp [totV, hll.out]; omega))
  refine readyG (rs := [7]) (by kernel_rfl) (by simp) ?_
  refine AllG.cons rfl (fun K hK => ?_) AllG.nil
  go_simp
  refine KC.out.mono ?_
  rintro e w5 ⟨vc, rfl, h5⟩
  have hS5 := hSn.call h5
  have e0 := hS5.bcell 2 rfl 0 rfl
  have e1 := hS5.bcell 2 rfl 1 rfl
  have e2 := hS5.bcell 1 rfl 1 rfl
  have rT := rii_twice (hS5.oldII hv) (v' := vc) (by have := h5.rd 0 (e := 52) (v := vc) rfl; simpa using this)
  refine hK.out _ _ ⟨e0, e1, e2⟩ (fun hHeld => ?_)
  clear hK K KC hSn hS3 h5 hRVV
  try simp only [Act.put, List.setIfInBounds_toArray, List.set_cons_zero, List.set_cons_succ]
  refine readyG (rs := [8]) (by kernel_rfl) (by simp) ?_
  refine AllG.cons rfl (fun K hK => ?_) AllG.nil
  go_simp
  by_cases hbig : 128 < (A ++ A).length
  · refine (sorted_no P vc (us ++ us) (A ++ A) _ rT hbig).mono ?_
    rintro e w7 ⟨v7, us7, rfl, hl7, h7⟩
    obtain ⟨ua, uc, hv7⟩ := (h7.rd 0 (e := 52) (v := v7) (us := us7) rfl).sl.sh
    rw [hl7] at hv7
    generalize hSe : (([] : List (List Int))).length = Sn at *
    have HSe := Lib.hid hSe
    clear hSe
    subst hv7
    unfold dv
    have hB := hS5.call h7
    have g0 := hB.bcell 2 rfl 0 rfl
    have g1 := hB.bcell 2 rfl 1 rfl
    have g2 := hB.bcell 1 rfl 1 rfl
    have c0 := hB.bcell 0 rfl 0 rfl
    have c1 := hB.bcell 0 rfl 1 rfl
    have f0 := hB.bfree 0 rfl
    refine hK.out _ _ ⟨g0, g1, g2⟩ (fun hHeld => ?_)
    clear hK K
    try simp only [Act.put, List.setIfInBounds_toArray, List.set_cons_zero, List.set_cons_succ]
    refine takeP (i := 9) (v := ?_) rfl (by kernel_rfl) (fun _ _ _ h => h) (by rfl) ?_ (by assumption) ?_
    case refine_2 => (intro w'; go_simp; first | done | with_reducible rfl)
    try simp only [Act.put, List.setIfInBounds_toArray, List.set_cons_zero, List.set_cons_succ]
    refine takeP (i := 10) (v := ?_) rfl (by kernel_rfl) (fun _ _ _ h => h) (by rfl) ?_ (by assumption) ?_
    case refine_2 => (intro w'; go_simp; first | done | with_reducible rfl)
    try simp only [Act.put, List.setIfInBounds_toArray, List.set_cons_zero, List.set_cons_succ]
    refine readyG (rs := [11]) (by kernel_rfl) (by simp) ?_
    refine AllG.last rfl (by kernel_rfl) (fun K hK => ?_) AllG.nil
    go_simp
    refine hK.out _ _ ?_
    clear hK K
    try simp only [Act.put, List.setIfInBounds_toArray, List.set_cons_zero, List.set_cons_succ]
    refine readyG (rs := [12]) (by kernel_rfl) (by simp) ?_
    refine AllG.last rfl (by kernel_rfl) (fun K hK => ?_) AllG.nil
    go_simp
    refine hK.out _ _ ?_
    clear hK K
    try simp only [Act.put, List.setIfInBounds_toArray, List.set_cons_zero, List.set_cons_succ]
    refine doneG (by kernel_rfl) ?_ _
    refine NoPanic.normal ?_
    have h6 := (hB.bstore 0 rfl 0 (.int .i64 0)).bstore 0 rfl 1 (.slice ua Sn uc)
    have d0 := h6.bcell 0 rfl 0 rfl
    have d1 := h6.bcell 0 rfl 1 rfl
    clear hB h7 hS5 c0 c1 f0 g0 g1 g2
    go_wp2_with fail
    refine bodyPost_ret (v := .tuple #[.agg #[.int .i64 0, .slice ua Sn uc], .int .i64 5]) (by simp [results, Try.results35, go_sem, d0, d1]) rfl ?_
    exact ⟨0, _, us7, ([] : List (List Int)), 5, rfl, by rw [hl7, HSe.out], .inl rfl, h6.sub (L' := own2 (.slice ua Sn uc) us7 (([] : List (List Int)))) ((((List.sublist_cons_self _ _).trans (List.sublist_cons_self _ _)).trans (List.sublist_cons_self _ _)).trans ((List.sublist_cons_self _ _).trans (List.sublist_cons_self _ _)))⟩
  · refine (sorted_c P vc (us ++ us) (A ++ A) _ rT (by omega) hrows.out).mono ?_
    rintro e w7 ⟨v7, us7, rfl, hl7, h7⟩
    obtain ⟨ua, uc, hv7⟩ := (h7.rd 0 (e := 52) (v := v7) (us := us7) rfl).sl.sh
    rw [hl7] at hv7
    generalize hSe : (srtL (A ++ A)).length = Sn at *
    have HSe := Lib.hid hSe
    clear hSe
    subst hv7
    unfold dv
    have hB := hS5.call h7
    have g0 := hB.bcell 2 rfl 0 rfl
    have g1 := hB.bcell 2 rfl 1 rfl
    have g2 := hB.bcell 1 rfl 1 rfl
    have c0 := hB.bcell 0 rfl 0 rfl
    have c1 := hB.bcell 0 rfl 1 rfl
    have f0 := hB.bfree 0 rfl
    refine hK.out _ _ ⟨g0, g1, g2⟩ (fun hHeld => ?_)
    clear hK K
    try simp only [Act.put, List.setIfInBounds_toArray, List.set_cons_zero, List.set_cons_succ]
    refine takeP (i := 9) (v := ?_) rfl (by kernel_rfl) (fun _ _ _ h => h) (by rfl) ?_ (by assumption) ?_
    case refine_2 => (intro w'; go_simp; first | done | with_reducible rfl)
    try simp only [Act.put, List.setIfInBounds_toArray, List.set_cons_zero, List.set_cons_succ]
    refine takeP (i := 10) (v := ?_) rfl (by kernel_rfl) (fun _ _ _ h => h) (by rfl) ?_ (by assumption) ?_
    case refine_2 => (intro w'; go_simp; first | done | with_reducible rfl)
    try simp only [Act.put, List.setIfInBounds_toArray, List.set_cons_zero, List.set_cons_succ]
    refine readyG (rs := [11]) (by kernel_rfl) (by simp) ?_
    refine AllG.last rfl (by kernel_rfl) (fun K hK => ?_) AllG.nil
    go_simp
    refine hK.out _ _ ?_
    clear hK K
    try simp only [Act.put, List.setIfInBounds_toArray, List.set_cons_zero, List.set_cons_succ]
    refine readyG (rs := [12]) (by kernel_rfl) (by simp) ?_
    refine AllG.last rfl (by kernel_rfl) (fun K hK => ?_) AllG.nil
    go_simp
    refine hK.out _ _ ?_
    clear hK K
    try simp only [Act.put, List.setIfInBounds_toArray, List.set_cons_zero, List.set_cons_succ]
    refine doneG (by kernel_rfl) ?_ _
    refine NoPanic.normal ?_
    have h6 := (hB.bstore 0 rfl 0 (.int .i64 P)).bstore 0 rfl 1 (.slice ua Sn uc)
    have d0 := h6.bcell 0 rfl 0 rfl
    have d1 := h6.bcell 0 rfl 1 rfl
    clear hB h7 hS5 c0 c1 f0 g0 g1 g2
    go_wp2_with fail
    refine bodyPost_ret (v := .tuple #[.agg #[.int .i64 P, .slice ua Sn uc], .int .i64 0]) (by simp [results, Try.results35, go_sem, d0, d1]) rfl ?_
    exact ⟨P, _, us7, srtL (A ++ A), 0, rfl, by rw [hl7, HSe.out], .inr ⟨rfl, by rw [srtL_len, List.length_append]; omega⟩, h6.sub (L' := own2 (.slice ua Sn uc) us7 (srtL (A ++ A))) ((((List.sublist_cons_self _ _).trans (List.sublist_cons_self _ _)).trans (List.sublist_cons_self _ _)).trans ((List.sublist_cons_self _ _).trans (List.sublist_cons_self _ _)))⟩
end Go.Proofs.Ytejncephbafcdaa
end

section
/- The law FnDesigns, walked. -/
namespace Go.Proofs.Ytejncephbafcdaa
set_option linter.unusedSimpArgs false
set_option linter.unusedVariables false
open Go.RowKit
attribute [local go_sem ↓] Go.wp_at_zero Go.wp_at_succ

def chkM (d : Nat × List (List Int)) : Bool := decide (0 ≤ nth (prmV d.1 d.2) 1 * nth (prmV d.1 d.2) 3 ∧ nth (prmV d.1 d.2) 1 * nth (prmV d.1 d.2) 3 ≤ 20000) && decide (0 ≤ nth (prmV d.1 d.2) 2 * (nth (prmV d.1 d.2) 3 - 1) ∧ nth (prmV d.1 d.2) 2 * (nth (prmV d.1 d.2) 3 - 1) ≤ 20000) && prmB d.1 d.2 && dOk d.1 d.2
theorem kn_chkM : ∀ d ∈ knL, chkM d = true := by decide +kernel
structure KnD (P : Nat) (A : List (List Int)) (V B R K L M1 M2 : Int) : Prop where
  p : prmV P A = [V, B, R, K, L]
  pc : prmC P A = 0
  bV : 0 ≤ V ∧ V ≤ 100
  bB : 0 ≤ B ∧ B ≤ 100
  bK : 0 ≤ K ∧ K ≤ 100
  bR : 0 ≤ R ∧ R ≤ 100
  bL : 0 ≤ L ∧ L ≤ 100
  e1 : B * K = M1 ∧ V * R = M1 ∧ 0 ≤ M1 ∧ M1 ≤ 20000
  e2 : R * (K - 1) = M2 ∧ L * (V - 1) = M2 ∧ 0 ≤ M2 ∧ M2 ≤ 20000
  e3 : V ≤ B
  ok : dOk P A = true
  img : ∀ q : List Int, q.length = P → IsP q → dOk P (srtL (imgL q A)) = true ∧ prmC P (srtL (imgL q A)) = 0 ∧ prmV P (srtL (imgL q A)) = [V, B, R, K, L]
theorem kn_factD {P : Nat} {A : List (List Int)} (h : (P, A) ∈ knL) : ∃ V B R K L M1 M2, KnD P A V B R K L M1 M2 := by
  have h1 := kn_chkE _ h
  have h2 := kn_num _ h
  have h3 := kn_chkM _ h
  unfold chkE at h1
  unfold chkN at h2
  unfold chkM at h3
  simp only [Bool.and_eq_true] at h1 h2 h3
  obtain ⟨⟨⟨a1, a2⟩, a3⟩, a4⟩ := h1
  obtain ⟨⟨⟨c1, c2⟩, c3⟩, c4⟩ := h3
  have hv := prm_val c3
  have a1 : ∀ x, x < P → repF A x = nth (repL P A) 0 := fun x hx => of_decide_eq_true (List.all_eq_true.1 a1 x (List.mem_range.2 hx))
  have a2 := of_decide_eq_true a2
  have a3 := of_decide_eq_true a3
  have a4 := of_decide_eq_true a4
  have c1 := of_decide_eq_true c1
  have c2 := of_decide_eq_true c2
  have hb : ∀ x ∈ prmV P A, 0 ≤ x ∧ x ≤ 100 := fun x hx => by
    have := List.all_eq_true.1 h2.1.1 x hx
    simpa using this
  rw [hv] at a2 a3 a4 c1 c2 hb
  exact ⟨_, _, _, _, _, _, _, hv, by rw [prmC, if_pos c3], hb _ (by simp), hb _ (by simp), hb _ (by simp), hb _ (by simp), hb _ (by simp), ⟨rfl, a2.symm, c1⟩, ⟨rfl, a3.symm, c2⟩, a4, c4, fun q hq hp => by
    obtain ⟨i1, i2, i3⟩ := img_prm hp hq c4 c3 a1
    exact ⟨i1, by rw [prmC, if_pos i2], by rw [i3, hv]⟩⟩
theorem wrap_of {x m : Int} (h : x = m) (h0 : 0 ≤ m) (h1 : m ≤ 20000) : IntKind.i64.wrap x = m := by rw [h]; exact IntWalk.i64_in _ (by omega)
theorem newD2 (w : World) (P : Int) (v : Value) : St w.heap.size w (w.alloc (.cells #[.int .i64 P, v] 41)) [] ∧ BoxD (w.alloc (.cells #[.int .i64 P, v] 41)) w.heap.size P v := by
  have hN := (St.refl w).newboxF 41 #[.int .i64 P, v]
  exact ⟨hN.out, hN.bcell 0 rfl 0 rfl, hN.bcell 0 rfl 1 rfl⟩
theorem newP2 (w : World) (a b c d e : Int) : St w.heap.size w (w.alloc (.cells #[.int .i64 a, .int .i64 b, .int .i64 c, .int .i64 d, .int .i64 e] 44)) [] ∧ BoxP (w.alloc (.cells #[.int .i64 a, .int .i64 b, .int .i64 c, .int .i64 d, .int .i64 e] 44)) w.heap.size a b c d e := by
  have hN := (St.refl w).newboxF 44 #[.int .i64 a, .int .i64 b, .int .i64 c, .int .i64 d, .int .i64 e]
  exact ⟨hN.out, hN.bcell 0 rfl 0 rfl, hN.bcell 0 rfl 1 rfl, hN.bcell 0 rfl 2 rfl, hN.bcell 0 rfl 3 rfl, hN.bcell 0 rfl 4 rfl⟩
/-- what stays in the second part -/
structure LE (w : World) (a : Option Addr) (c : Nat) (us : List Value) (A : List (List Int)) (P : Nat) (g : Nat) (W : World) : Prop where
  rd : RII W (.slice a A.length c) us A
  bd : BoxD W g P (.slice a A.length c)
  st : St w.heap.size w W []
theorem LE.call {w W W' : World} {a : Option Addr} {c : Nat} {us : List Value} {A : List (List Int)} {P g : Nat} {M : List Ent} (h : LE w a c us A P g W) (h' : St W.heap.size W W' M) : LE w a c us A P g W' :=
  ⟨h.rd.keep h'.below, h.bd.keep h'.below, h.st.call0 h'.out⟩
theorem sumL_take {xs : List Int} {k : Nat} (h : k < xs.length) : sumL (xs.take (k + 1)) = sumL (xs.take k) + nth xs k := by
  rw [take_nth h, sumL_cat]; simp [sumL]
theorem sumL_bd2 {xs : List Int} {c : Int} (h0 : 0 ≤ c) (h : ∀ x ∈ xs, 0 ≤ x ∧ x ≤ c) : ∀ k : Nat, 0 ≤ sumL (xs.take k) ∧ sumL (xs.take k) ≤ c * k
  | 0 => by simp [sumL]
  | k + 1 => by
    have ih := sumL_bd2 h0 h k
    by_cases hk : k < xs.length
    · rw [sumL_take hk]
      have := h _ (nth_mem hk)
      push_cast; rw [Int.mul_add, Int.mul_one]; omega
    · rw [List.take_of_length_le (by omega)] at ih ⊢
      push_cast; rw [Int.mul_add, Int.mul_one]; omega
set_option maxHeartbeats 16000000 in
set_option maxRecDepth 100000 in
theorem FnDesigns_law (w : World) (cv : Value) (bs : List UInt8) (cm : Value) (ms : List UInt8) (hb : RdB w cv bs) (hm : RdB w cm ms) :
    Calls Try.prog 6 #[cv, cm] w (GivesB w true) := by
  have KL := v8Long_c cv cm bs ms w hb hm
  generalize (decide (1048576 < (bs.length : Int)) || decide (1048576 < (ms.length : Int))) = lo at KL
  cases lo
  case true =>
    go_enter Try.func6, Try.ntmps6
    go_wp2_with fail
    refine KL.mono ?_
    rintro e w1 ⟨rfl, rfl⟩
    go_wp2_with fail
    go_ret
    exact ⟨rfl, St.refl _⟩
  case false =>
    go_enter Try.func6, Try.ntmps6
    go_wp2_with fail
    refine KL.mono ?_
    clear KL
    rintro e w1 ⟨rfl, rfl⟩
    go_wp2_with fail
    refine (V8Balanced_c w cv bs hb).mono ?_
    rintro e w1 ⟨P, A, v, us, hmem, rfl, rd, ht⟩
    obtain ⟨V, B, R, K, Lm, M1, M2, hF⟩ := kn_factD hmem
    have HF := Lib.hid hF
    obtain ⟨V0, V1⟩ := hF.bV
    obtain ⟨B0, B1⟩ := hF.bB
    obtain ⟨K0, K1⟩ := hF.bK
    obtain ⟨R0, R1⟩ := hF.bR
    obtain ⟨L0, L1⟩ := hF.bL
    have q1 := wrap_of hF.e1.1 hF.e1.2.2.1 hF.e1.2.2.2
    have q2 := wrap_of hF.e1.2.1 hF.e1.2.2.1 hF.e1.2.2.2
    have q3 := wrap_of hF.e2.1 hF.e2.2.2.1 hF.e2.2.2.2
    have q4 := wrap_of hF.e2.2.1 hF.e2.2.2.1 hF.e2.2.2.2
    have e3 : ¬ B < V := by have := hF.e3; omega
    obtain ⟨a, c, hsh⟩ := rd.1.sl.sh
    rw [rd.2.1] at hsh
    subst hsh
    have rm := hm.keep ht.below
    have rb := hb.keep ht.below
    obtain ⟨hn, bd⟩ := newD2 w1 P (.slice a A.length c)
    have rd := rd.keep hn.below
    have rm := rm.keep hn.below
    have rb := rb.keep hn.below
    have ht := ht.call0 hn
    have b0 := bd.1
    have b1 := bd.2
    have KP := Lib.hid (ParametersOf_c P (.slice a A.length c) us A _ rd HF.out.ok)
    rw [HF.out.p, HF.out.pc] at KP
    unfold dv at KP
    clear hF hmem hb hm hn
    unfold dv
    go_wp2_with fail
    refine KP.out.mono ?_
    clear KP b0 b1
    rintro e w2 ⟨rfl, h2⟩
    rw [pmV_5]
    have rd := rd.keep h2.below
    have rm := rm.keep h2.below
    have rb := rb.keep h2.below
    have bd := bd.keep h2.below
    have ht := ht.call0 h2
    obtain ⟨hn, bp⟩ := newP2 w2 V B R K Lm
    have rd := rd.keep hn.below
    have rm := rm.keep hn.below
    have rb := rb.keep hn.below
    have bd := bd.keep hn.below
    have ht := ht.call0 hn
    have b0 := bd.1
    have b1 := bd.2
    have KI := Lib.hid (V8Image_c _ cm ms P (.slice a A.length c) us A rm rd HF.out.ok)
    unfold dv at KI
    clear h2 hn
    go_wp2_with fail
    refine KI.out.mono ?_
    clear KI b0 b1
    rintro e w3 ⟨q, vi, ui, hq, hqp, rfl, ri, h3⟩
    obtain ⟨i1, i2, i3⟩ := HF.out.img q hq hqp
    have rb := rb.keep h3.below
    have bp := bp.keep h3.below
    have ht := ht.call0 h3
    have KP := Lib.hid (ParametersOf_c P vi ui (srtL (imgL q A)) _ ri i1)
    rw [i2, i3] at KP
    clear h3 i1 i2 i3 hq hqp rd rm bd
    go_wp2_with fail
    refine KP.out.mono ?_
    clear KP
    rintro e w4 ⟨rfl, h4⟩
    rw [pmV_5]
    have rb := rb.keep h4.below
    have bp := bp.keep h4.below
    have ht := ht.call0 h4
    obtain ⟨hn, bq⟩ := newP2 w4 V B R K Lm
    have rb := rb.keep hn.below
    have bp := bp.keep hn.below
    have ht := ht.call0 hn
    clear h4 hn ri
    have p0 := bp.1
    have p1 := bp.2.1
    have p2 := bp.2.2.1
    have p3 := bp.2.2.2.1
    have p4 := bp.2.2.2.2
    have t0 := bq.1
    have t1 := bq.2.1
    have t2 := bq.2.2.1
    have t3 := bq.2.2.2.1
    have t4 := bq.2.2.2.2
    go_wp2_with fail
    refine (V8Design_c _ cv bs rb).mono ?_
    clear p0 p1 p2 p3 p4 t0 t1 t2 t3 t4 bp bq q1 q2 q3 q4 e3 HF
    rintro e w5 ⟨Q, D, v2, u2, ho, rfl, rd, h5⟩
    have ht := ht.call0 h5
    obtain ⟨a2, c2, hsh⟩ := rd.1.sl.sh
    rw [rd.2.1] at hsh
    subst hsh
    have Ho := Lib.hid ho
    have HD := Lib.hid (dOk_t ho)
    obtain ⟨hn, bd⟩ := newD2 w5 Q (.slice a2 D.length c2)
    have hE : LE w a2 c2 u2 D Q _ _ := ⟨rd.keep hn.below, bd, ht.call0 hn⟩
    clear ho rd bd h5 ht hn rb
    have b0 := hE.bd.1
    have b1 := hE.bd.2
    have KM := Lib.hid (IncidenceMatrix_c Q (.slice a2 D.length c2) u2 D _ hE.rd Ho.out)
    unfold dv at KM ⊢
    go_wp2_with fail
    refine KM.out.mono ?_
    clear KM b0 b1
    rintro e w6 ⟨vm, um, rfl, hlm, h6⟩
    have rm := h6.rii hlm
    have hE := hE.call h6
    clear h6 hlm
    have b0 := hE.bd.1
    have b1 := hE.bd.2
    have KM := Lib.hid (ReplicationsOf_c Q (.slice a2 D.length c2) u2 D _ hE.rd Ho.out)
    unfold dv at KM
    go_wp2_with fail
    refine KM.out.mono ?_
    clear KM b0 b1
    rintro e w7 ⟨vr, rfl, h7⟩
    have rr := h7.rdI 0 rfl
    have rm := rm.keep h7.below
    have hE := hE.call h7
    clear h7
    have b0 := hE.bd.1
    have b1 := hE.bd.2
    have KM := Lib.hid (PairCounts_c Q (.slice a2 D.length c2) u2 D _ hE.rd Ho.out)
    unfold dv at KM
    go_wp2_with fail
    refine KM.out.mono ?_
    clear KM b0 b1
    rintro e w8 ⟨vq, rfl, h8⟩
    have rq := h8.rdI 0 rfl
    have rr := rr.keep h8.below
    have rm := rm.keep h8.below
    have hE := hE.call h8
    clear h8
    have KM := Lib.hid (DesignOfMatrix_c Q vm um D _ rm Ho.out)
    go_wp2_with fail
    refine KM.out.mono ?_
    clear KM
    rintro e w9 ⟨vy, uy, rfl, hly, h9⟩
    have ry := h9.rii hly
    have rq := rq.keep h9.below
    have rr := rr.keep h9.below
    have hE := hE.call h9
    obtain ⟨ay, cy, hsy⟩ := ry.1.sl.sh
    rw [ry.2.1] at hsy
    subst hsy
    obtain ⟨hn, by'⟩ := newD2 w9 Q (.slice ay D.length cy)
    have hE := hE.call hn
    have ry := ry.keep hn.below
    have rq := rq.keep hn.below
    have rr := rr.keep hn.below
    clear h9 hly hn rm
    have y0 := by'.1
    have y1 := by'.2
    have b0 := hE.bd.1
    have b1 := hE.bd.2
    have KS := Lib.hid (show Calls Try.prog 20 #[dv Q (.slice ay D.length cy), dv Q (.slice a2 D.length c2)] _ (GivesB _ true) from by
      have := SameDesign_c Q Q (.slice ay D.length cy) (.slice a2 D.length c2) uy u2 D D _ ry hE.rd
      rwa [decide_eq_true ⟨rfl, rfl⟩] at this)
    unfold dv at KS ⊢
    go_wp2_with (go_at_call 20; refine KS.out.mono ?_; rintro e w10 ⟨rfl, h10⟩; have hE10 := hE.call h10; have rq10 := rq.keep h10.below; have rr10 := rr.keep h10.below; have b1 := hE10.bd.2)
    clear hE rq rr ry by' y0 y1 b0 KS h10 b1
    have hDl := HD.out.len
    have hQ := HD.out.le
    have hbl := Lib.hid (fun k (hk : k < D.length) => (show 1 ≤ (xat D k).length ∧ (xat D k).length ≤ 32 from by
      have := (HD.out.inc' hk).len
      have := HD.out.ne _ (xat_mem hk)
      omega))
    have hLn : (lens D).length = D.length := by simp [lens]
    have hTn : (twos D).length = D.length := by simp [twos]
    have hLat := Lib.hid (fun k (hk : k < D.length) => (show nth (lens D) k = (xat D k).length from by rw [nth_eq (by rw [hLn]; exact hk), xat_eq hk]; simp [lens]))
    have hTat := Lib.hid (fun k (hk : k < D.length) => (show nth (twos D) k = ((xat D k).length : Int) * ((xat D k).length - 1) / 2 from by rw [nth_eq (by rw [hTn]; exact hk), xat_eq hk]; simp [twos]))
    have hprod := Lib.hid (fun k (hk : k < D.length) => (show 0 ≤ ((xat D k).length : Int) * ((xat D k).length - 1) ∧ ((xat D k).length : Int) * ((xat D k).length - 1) ≤ 1024 from by
      have := hbl.out k hk
      refine ⟨Int.mul_nonneg (by omega) (by omega), ?_⟩
      have := Int.mul_le_mul (show ((xat D k).length : Int) ≤ 32 by omega) (show ((xat D k).length : Int) - 1 ≤ 32 by omega) (by omega) (by omega)
      omega))
    have hLb := Lib.hid (sumL_bd2 (xs := lens D) (c := 32) (by omega) (fun x hx => by
      obtain ⟨k, hk, rfl⟩ := List.getElem_of_mem hx
      have hk' : k < D.length := by rw [← hLn]; exact hk
      rw [← nth_eq hk, hLat.out k hk']
      have := hbl.out k hk'; omega))
    have hTb := Lib.hid (sumL_bd2 (xs := twos D) (c := 1024) (by omega) (fun x hx => by
      obtain ⟨k, hk, rfl⟩ := List.getElem_of_mem hx
      have hk' : k < D.length := by rw [← hTn]; exact hk
      rw [← nth_eq hk, hTat.out k hk']
      have := hprod.out k hk'; omega))
    have HLn := Lib.hid hLn
    have HTn := Lib.hid hTn
    clear hLn hTn
    obtain ⟨wl, hwl⟩ : ∃ wl : World, wl = w10 := ⟨_, rfl⟩
    go_loopw [17, 18, 19, 20] (fun s t i _ wr => ∃ k : Nat, k ≤ D.length ∧ i = .int .i64 k ∧ s = .int .i64 (-(sumL ((lens D).take k))) ∧ t = .int .i64 (-(sumL ((twos D).take k))) ∧ w10 = wr) (fun _ _ i _ _ => D.length - (intOf i).toNat)
    case atStart => exact ⟨0, by omega, rfl, by simp [sumL], by simp [sumL], rfl⟩
    case round =>
      obtain ⟨k, hk, rfl, rfl, rfl, rfl⟩ := hrel
      have b1 := hE10.bd.2
      by_cases hlt : k < D.length
      · have ck := hE10.rd.cell k hlt
        have xk := hE10.rd.ixe (k : Int) k rfl hlt
        have hlk := (hE10.rd.row k hlt).len
        have hbk := hbl.out k hlt
        have hl1 := hLb.out k
        have ht1 := hTb.out k
        have hzb := hprod.out k hlt
        have hL1 := sumL_take (xs := lens D) (k := k) (by rw [HLn.out]; exact hlt)
        have hT1 := sumL_take (xs := twos D) (k := k) (by rw [HTn.out]; exact hlt)
        rw [hLat.out k hlt] at hL1
        rw [hTat.out k hlt] at hT1
        generalize (xat D k).length = n at *
        have hL1 := Lib.hid hL1
        have hT1 := Lib.hid hT1
        generalize sumL ((lens D).take k) = S0 at *
        generalize sumL ((twos D).take k) = T0 at *
        obtain ⟨z, hz⟩ : ∃ z : Int, (n : Int) * ((n : Int) - 1) = z := ⟨_, rfl⟩
        rw [hz] at hzb
        have qz : IntKind.i64.wrap ((n : Int) * ((n : Int) - 1)) = z := by rw [hz]; exact IntWalk.i64_in _ (by omega)
        have qd : z.tdiv 2 = z / 2 := Int.tdiv_eq_ediv_of_nonneg hzb.1
        have Hz := Lib.hid hz
        clear hz
        go_wp2_with fail
        go_roundw
        case rel => exact ⟨k + 1, by omega, by go_num, by rw [hL1.out]; congr 1; omega, by rw [hT1.out, Hz.out]; congr 1; omega, by first | trivial | rfl⟩
        case measure => simp [intOf]; omega
      · obtain rfl : k = D.length := by omega
        have hS := rep_sum (P := Q) (A := D) (fun b hb => inc_of (HD.out.inc b hb))
        have hT := par_sum (P := Q) (A := D) (fun b hb => inc_of (HD.out.inc b hb))
        rw [show (lens D).take D.length = lens D from List.take_of_length_le (by rw [HLn.out]; omega), show (twos D).take D.length = twos D from List.take_of_length_le (by rw [HTn.out]; omega)]
        have hl1 := hLb.out D.length
        have ht1 := hTb.out D.length
        rw [show (lens D).take D.length = lens D from List.take_of_length_le (by rw [HLn.out]; omega)] at hl1
        rw [show (twos D).take D.length = twos D from List.take_of_length_le (by rw [HTn.out]; omega)] at ht1
        have hRb := Lib.hid (sumL_bd2 (xs := repL Q D) (c := 128) (by omega) (fun x hx => by
          obtain ⟨y, _, rfl⟩ := List.mem_map.1 hx
          have := cntD_bd (fun b => decide ((y : Int) ∈ b)) D
          unfold repF; omega))
        have hPb := Lib.hid (sumL_bd2 (xs := parL Q D) (c := 128) (by omega) (fun x hx => by
          obtain ⟨y, y', _, _, rfl⟩ := parL_mem.1 hx
          have := cntD_bd (fun b => decide ((y : Int) ∈ b) && decide ((y' : Int) ∈ b)) D
          unfold parF; omega))
        have hrl : (repL Q D).length ≤ 32 := by rw [repL_len]; omega
        have hpl : (parL Q D).length ≤ 1024 := by
          have := parK_len Q D Q
          have h2 : Q * Q ≤ 32 * 32 := Nat.mul_le_mul (by omega) (by omega)
          rw [parK_end] at this; omega
        rw [← hS] at hl1 ⊢
        rw [← hT] at ht1 ⊢
        have hlr := rr10.len
        have hxr := rr10.ixe
        have hlq := rq10.len
        have hxq := rq10.ixe
        generalize repL Q D = RL at *
        generalize parL Q D = PL at *
        clear hLb hTb hLat hTat hprod hbl HLn HTn hS hT
        go_wp2_with fail
        go_loopw [17, 21] (fun s i wr => ∃ k : Nat, k ≤ RL.length ∧ i = .int .i64 k ∧ s = .int .i64 (-(sumL RL) + sumL (RL.take k)) ∧ w10 = wr) (fun _ i _ => RL.length - (intOf i).toNat)
        case atStart => exact ⟨0, by omega, rfl, by simp [sumL], rfl⟩
        case round =>
          obtain ⟨k, hk, rfl, rfl, rfl⟩ := hrel
          by_cases hlt : k < RL.length
          · have ck := rr10.cell k hlt
            have xk := hxr (k : Int) k rfl hlt
            have h1 := hRb.out k
            have h2 := hRb.out (k + 1)
            have hL1 := sumL_take hlt
            rw [hL1] at h2
            have hL1 := Lib.hid hL1
            generalize sumL (RL.take k) = S0 at *
            generalize nth RL k = y at *
            generalize sumL RL = ST at *
            go_wp2_with fail
            go_roundw
            case rel => exact ⟨k + 1, by omega, by go_num, by rw [hL1.out]; congr 1; omega, by first | trivial | rfl⟩
            case measure => simp [intOf]; omega
          · obtain rfl : k = RL.length := by omega
            rw [List.take_length, Int.add_left_neg]
            go_wp2_with fail
            go_loopw [18, 22] (fun s i wr => ∃ k : Nat, k ≤ PL.length ∧ i = .int .i64 k ∧ s = .int .i64 (-(sumL PL) + sumL (PL.take k)) ∧ w10 = wr) (fun _ i _ => PL.length - (intOf i).toNat)
            case atStart => exact ⟨0, by omega, rfl, by simp [sumL], rfl⟩
            case round =>
              obtain ⟨k, hk, rfl, rfl, rfl⟩ := hrel
              by_cases hlt : k < PL.length
              · have ck := rq10.cell k hlt
                have xk := hxq (k : Int) k rfl hlt
                have h1 := hPb.out k
                have h2 := hPb.out (k + 1)
                have hL1 := sumL_take hlt
                rw [hL1] at h2
                have hL1 := Lib.hid hL1
                generalize sumL (PL.take k) = S0 at *
                generalize nth PL k = y at *
                generalize sumL PL = ST at *
                go_wp2_with fail
                go_roundw
                case rel => exact ⟨k + 1, by omega, by go_num, by rw [hL1.out]; congr 1; omega, by first | trivial | rfl⟩
                case measure => simp [intOf]; omega
              · obtain rfl : k = PL.length := by omega
                rw [List.take_length, Int.add_left_neg]
                have b0 := hE10.bd.1
                have b1 := hE10.bd.2
                have KM := Lib.hid (SortDesign_c Q (.slice a2 D.length c2) u2 D w10 hE10.rd Ho.out)
                clear hRb hPb hlr hxr hxq hl1 ht1 rr10
                go_wp2_with fail
                refine KM.out.mono ?_
                clear KM b0 b1
                rintro e w11 ⟨vz, uz, rfl, hlz, h11⟩
                have rz := h11.rii hlz
                have hE := hE10.call h11
                obtain ⟨az, cz, hsz⟩ := rz.1.sl.sh
                rw [rz.2.1] at hsz
                subst hsz
                obtain ⟨hn, bz⟩ := newD2 w11 Q (.slice az D.length cz)
                have hE := hE.call hn
                have rz := rz.keep hn.below
                clear h11 hlz hn hE10
                have b0 := hE.bd.1
                have b1 := hE.bd.2
                have KM := Lib.hid (SumDesigns_c Q (.slice a2 D.length c2) u2 D _ hE.rd Ho.out)
                unfold dv at KM ⊢
                go_wp2_with fail
                refine KM.out.mono ?_
                clear KM b0 b1
                rintro e w12 ⟨P', vs, us', B', c', rfl, hlb, hc, h12⟩
                obtain ⟨ua, uc, hss⟩ := (h12.rd 0 (e := 52) (v := vs) (us := us') rfl).sl.sh
                rw [hlb] at hss
                subst hss
                have hE := hE.call h12
                have rz := rz.keep h12.below
                have bz := bz.keep h12.below
                obtain ⟨hn, bt⟩ := newD2 w12 P' (.slice ua B'.length uc)
                have hE := hE.call hn
                have rz := rz.keep hn.below
                have bz := bz.keep hn.below
                clear h12 hlb hn
                have y0 := bz.1
                have y1 := bz.2
                have b0 := hE.bd.1
                have b1 := hE.bd.2
                have KS := Lib.hid (show Calls Try.prog 20 #[dv Q (.slice az D.length cz), dv Q (.slice a2 D.length c2)] _ (GivesB _ true) from by
                  have := SameDesign_c Q Q (.slice az D.length cz) (.slice a2 D.length c2) uz u2 D D _ rz hE.rd
                  rwa [decide_eq_true ⟨rfl, rfl⟩] at this)
                unfold dv at KS ⊢
                rcases hc with rfl | ⟨rfl, hBl⟩
                · go_wp2_with (go_at_call 20; refine KS.out.mono ?_; rintro e w13 ⟨rfl, h13⟩; have hE13 := hE.call h13)
                  go_ret
                  exact ⟨rfl, hE13.st⟩
                · have hBi : ((B'.length : Int) == 2 * (D.length : Int)) = true := eq_t (by omega)
                  have HBi := Lib.hid hBi
                  have bt1 := bt.2
                  clear hBl hBi
                  go_wp2_with (go_at_call 20; refine KS.out.mono ?_; rintro e w13 ⟨rfl, h13⟩; have hE13 := hE.call h13; have bt13 := (bt.keep h13.below).2; have bd13 := hE13.bd.2)
                  go_ret
                  exact ⟨by show Ending.returned (Value.bool ((B'.length : Int) == 2 * (D.length : Int))) = _; rw [HBi.out], hE13.st⟩
end Go.Proofs.Ytejncephbafcdaa
end

section
/- How arguments that come in read. How bytes that come in read. -/
namespace Go.Proofs.Ytejncephbafcdaa
set_option linter.unusedSimpArgs false
set_option linter.unusedVariables false
open Go.RowKit


/-- what came in as a slice of integers: nothing, or a row of numbers that fit -/
def IsRow (k : IntKind) (w : World) (a : Option Addr) (len cap : Nat) (zs : List Int) : Prop :=
  (a = none ∧ len = 0 ∧ cap = 0 ∧ zs = []) ∨
  ∃ x, a = some x ∧ len ≤ cap ∧ cap ≤ maxLen ∧ zs.length = cap ∧ (∀ i, i < zs.length → w.cell? (x.add i) = some (.int k (zs.getD i 0))) ∧ ∀ n ∈ zs, (Lit.int k n).wf = true

theorem IsRow.rd {k : IntKind} {w : World} {a : Option Addr} {len cap : Nat} {zs : List Int} (h : IsRow k w a len cap zs) : Rd w (.slice a len cap) ((zs.take len).map (Value.int k)) := by
  rcases h with ⟨rfl, rfl, rfl, rfl⟩ | ⟨x, rfl, h1, h2, h3, h4, h5⟩
  · exact Rd.nil w
  · have hl : ((zs.take len).map (Value.int k)).length = len := by simp; omega
    refine ⟨⟨some x, cap, by rw [hl], by omega, h2, .inr (by simp)⟩, ?_⟩
    intro i u hu
    have hi : i < len := by have := (List.getElem?_eq_some_iff.1 hu).1; omega
    have := h4 i (by omega)
    simp only [List.getElem?_map, List.getElem?_take, hi, if_true] at hu
    rw [List.getElem?_eq_getElem (by omega)] at hu
    simp at hu
    simp only [el]
    rw [this, ← hu]
    simp [List.getD, List.getElem?_eq_getElem (show i < zs.length by omega)]


theorem IsRow.rdB {w : World} {a : Option Addr} {len cap : Nat} {zs : List Int} (h : IsRow .u8 w a len cap zs) : ∃ bs, RdB w (.slice a len cap) bs := by
  refine ⟨(zs.take len).map fun n => UInt8.ofNat n.toNat, ?_⟩
  have h1 := h.rd
  have hw : ∀ n ∈ zs, 0 ≤ n ∧ n ≤ 255 := by
    rcases h with ⟨_, _, _, rfl⟩ | ⟨_, _, _, _, _, _, h5⟩
    · simp
    · intro n hn; have := h5 n hn; simpa [Lit.wf, IntKind.min, IntKind.max, IntKind.signed, IntKind.bits] using this
  unfold RdB bv
  rw [List.map_map]
  rw [List.map_congr_left (g := Value.int .u8)]
  · exact h1
  · intro n hn
    have := hw n (List.mem_of_mem_take hn)
    simp only [Function.comp]
    congr 1
    rw [UInt8.toNat_ofNat']
    omega

end Go.Proofs.Ytejncephbafcdaa
end

section
/- FnDesigns holds: for every input the call returns true and leaves its arguments as they are. No condition. -/
namespace Go.Proofs.Ytejncephbafcdaa.fnDesigns
set_option linter.unusedSimpArgs false
set_option linter.unusedVariables false
open Go.ChangeShapes Go.WideShapes Go.ChangeAt Go.RowKit
set_option linter.unusedVariables false

theorem own : ownKnob Try.prog.godebug = none := by kernel_rfl
theorem laidOut : laidOutB Try.prog = true := by kernel_rfl

set_option maxRecDepth 100000 in
theorem lifted (os : Os) (started : os.Started) (H : Type) (enc : TypeId × Value → H) :
    ReturnsInHanded {} Try.checked os 6 .any (Rows.fnDesignsSpec.pre6 enc Try.prog Try.f6 Rows.fnDesignsRow.domain false) (Rows.fnDesignsSpec.post enc Try.prog Try.f6 false true false false) := by
  refine returnsInHanded_of_change (C := Try.checked) own started (by kernel_rfl) Try.func6
    (ChangeSpec.witness6 (enc := enc) (C := Try.checked) false ⟨#[], #[.slice none 0 0, .slice none 0 0], []⟩ 8 (by kernel_rfl) (by kernel_rfl) (by kernel_rfl) (by kernel_rfl)) ?_
  intro W base args ds gs before hval0 hW hcnd _
  have hval : ∀ (j : Nat) t v, Try.f6.params[j]? = some t → args[j]? = some v → Value.okWide Try.prog W .any base t v := hval0
  have hW' := hW
  obtain ⟨p, q, hA0, hV, rfl, hfz, hnd⟩ := hW
  have hA : DataW.TrodAll enc Try.prog W 0 (fun _ => true) true Try.f6.params.toList args.toList ds p := hA0
  rw [Try.params6] at hA hval
  obtain ⟨v0, vs0, d0, ds0, p0, q0, hargs, rfl, rfl, h0, r0⟩ := trodAll_cons hA
  obtain ⟨v1, vs1, d1, ds1, p1, q1, rfl, rfl, rfl, h1, r1⟩ := trodAll_cons r0
  obtain ⟨rfl, rfl, rfl⟩ := trodAll_nil r1
  obtain rfl : args = #[v0, v1] := by cases args; simp_all
  obtain ⟨rfl, rfl⟩ := trodVars_none hV
  obtain ⟨a0, len0, cap0, rfl⟩ := okWide_slice Try.underlying22 (hval 0 22 v0 rfl rfl)
  have k0 := h0
  have lt0 : ∀ x ∈ p0, x.block < W.heap.size := by obtain ⟨m, hm⟩ := k0; exact DataW.trod_lt m _ _ _ hm
  obtain ⟨bs0, rd0⟩ : ∃ bs, RdB W (.slice a0 len0 cap0) bs := by
    obtain ⟨fuel, hf⟩ := h0
    rcases open_ints Try.underlying22 Try.underlying5 (by kernel_rfl) hf with ⟨hcs, _⟩ | ⟨x, l, c, zs, hcs, _, hl, hm, hz, _, hcell, hwz⟩
    · simp [Value.cells] at hcs
      obtain ⟨rfl, rfl, rfl⟩ := hcs
      exact IsRow.rdB (zs := []) (.inl ⟨rfl, rfl, rfl, rfl⟩)
    · simp [Value.cells] at hcs
      obtain ⟨rfl, rfl, rfl⟩ := hcs
      exact IsRow.rdB (zs := zs) (.inr ⟨_, rfl, hl, hm, by simpa using hz, hcell, hwz⟩)
  obtain ⟨a1, len1, cap1, rfl⟩ := okWide_slice Try.underlying22 (hval 1 22 v1 rfl rfl)
  have k1 := h1
  have lt1 : ∀ x ∈ p1, x.block < W.heap.size := by obtain ⟨m, hm⟩ := k1; exact DataW.trod_lt m _ _ _ hm
  obtain ⟨bs1, rd1⟩ : ∃ bs, RdB W (.slice a1 len1 cap1) bs := by
    obtain ⟨fuel, hf⟩ := h1
    rcases open_ints Try.underlying22 Try.underlying5 (by kernel_rfl) hf with ⟨hcs, _⟩ | ⟨x, l, c, zs, hcs, _, hl, hm, hz, _, hcell, hwz⟩
    · simp [Value.cells] at hcs
      obtain ⟨rfl, rfl, rfl⟩ := hcs
      exact IsRow.rdB (zs := []) (.inl ⟨rfl, rfl, rfl, rfl⟩)
    · simp [Value.cells] at hcs
      obtain ⟨rfl, rfl, rfl⟩ := hcs
      exact IsRow.rdB (zs := zs) (.inr ⟨_, rfl, hl, hm, by simpa using hz, hcell, hwz⟩)
  clear hA0 hval0
  refine (FnDesigns_law W _ bs0 _ bs1 rd0 rd1).mono fun e W' ⟨he, hst⟩ => ?_
  have bel := hst.below
  subst he
  exact ⟨_, rfl, _, _, _, [], _, [], hW', trodAll_mk1 (shut_bool Try.underlying4 _), (trodAll_cons_mk (Below.trod laidOut (by kernel_rfl) (of_decide_eq_true (by kernel_rfl)) k0 bel lt0) (trodAll_cons_mk (Below.trod laidOut (by kernel_rfl) (of_decide_eq_true (by kernel_rfl)) k1 bel lt1) trodAll_mk0)), rfl, bel.frame _, fun h => by cases h⟩

theorem over : Rows.fnDesignsRow.holds Try.pinned (OpenSpec.ofChange Rows.fnDesignsSpec) :=
  OpenClaim.holds_of_wide 6 Try.f6 rfl rfl rfl rfl rfl rfl rfl ⟨rfl, rfl, rfl, rfl, rfl⟩ rfl rfl rfl rfl rfl (by kernel_rfl) Try.func6 (by kernel_rfl)
    (of_decide_eq_true (by kernel_rfl)) (by unfold Func.isWrapper; first | (rw [if_pos (by decide +kernel)]; kernel_rfl) | (rw [if_neg (by decide +kernel)]; exact ⟨rfl, rfl⟩))
    (fun os started H enc _ => lifted os started H enc)

theorem proved : Rows.FnDesignsSaid := over
#print axioms proved
end Go.Proofs.Ytejncephbafcdaa.fnDesigns
end
