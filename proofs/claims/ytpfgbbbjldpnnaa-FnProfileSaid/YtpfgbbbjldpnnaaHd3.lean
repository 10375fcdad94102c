/- Walks: Hadamard matrices that the program checks, and their profiles. -/
import Derived.Test.YtpfgbbbjldpnnaaPHad
import Derived.Test.YtpfgbbbjldpnnaaMk
import Derived.Test.YtpfgbbbjldpnnaaAnyR
import Derived.Test.YtpfgbbbjldpnnaaStr1
import Derived.Test.YtpfgbbbjldpnnaaNum2
namespace Go.Proofs.Ytpfgbbbjldpnnaa
set_option linter.unusedSimpArgs false
set_option linter.unusedVariables false
open Go.RowKit
attribute [local go_sem ↓] Go.wp_at_zero Go.wp_at_succ


theorem rslRII {w : World} {v : Value} {us : List Value} {A : List (List Int)} (h : RII w v us A) {k : Nat} (hk : k ≤ A.length) : RII w (rsl v 0 k) (us.take k) (A.take k) := by
  have h1 := rsl_Rd h.1 (lo := 0) (hi := k) (by omega) (by rw [h.2.1]; exact hk)
  rw [List.drop_zero] at h1
  refine ⟨h1, by rw [List.length_take, List.length_take, h.2.1], fun j hj => ?_⟩
  rw [List.length_take] at hj
  have e1 : vat (us.take k) j = vat us j := by rw [vat, vat, List.getD, List.getD, List.getElem?_take, if_pos (by omega)]
  have e2 : xat (A.take k) j = xat A j := by rw [xat, xat, List.getD, List.getD, List.getElem?_take, if_pos (by omega)]
  rw [e1, e2]
  exact h.row j (by omega)
theorem vat_take {us : List Value} {k j : Nat} (h : j < k) : vat (us.take k) j = vat us j := by rw [vat, vat, List.getD, List.getD, List.getElem?_take, if_pos h]
theorem vh1_c (x : Int) (w : World) (h : Pm x) : Calls Try.prog 128 #[.int .i64 x] w (GivesB w false) := by
  have hS := St.refl w
  rcases h with rfl | rfl
  · go_enter Try.func128, Try.ntmps128
    go_wp2_with fail
    go_ret
    exact ⟨rfl, hS⟩
  · go_enter Try.func128, Try.ntmps128
    go_wp2_with fail
    go_ret
    exact ⟨rfl, hS⟩
set_option maxHeartbeats 8000000 in
set_option maxRecDepth 100000 in
theorem ValidHadamard_c (v : Value) (us : List Value) (H : List (List Int)) (n : Nat) (w : World) (hv : RII w v us H) (hH : Had n H) :
    Calls Try.prog 95 #[v] w (GivesB w true) := by
  have hln := hv.len
  rw [hH.sqr.len] at hln
  have hix := hv.ixe
  rw [hH.sqr.len] at hix
  have n1 := hH.pos
  have n2 := hH.le
  have Hh := Lib.hid hH
  have hcf := callFunc_go Try.func128 (by kernel_rfl) (by kernel_rfl)
  have hS0 := St.refl w
  have HZ := fun W h => Lib.hid (szII_c v us H W h)
  rw [hH.sqr.len] at HZ
  have hC := fun k (hk : k < n) W (h : RdI W (vat us k) (xat H k)) => Lib.hid (ContainsFunc_c 128 #[] (fun _ => false) (vat us k) (xat H k) W h hcf (fun x W' _ hx => vh1_c x W' (by
    obtain ⟨j, hj, rfl⟩ := List.getElem_of_mem hx
    rw [← nth_eq hj]
    exact hH.el k j hk (by rw [← hH.sqr.row k hk]; exact hj))))
  have hany : ∀ k, anyP (fun _ => false) (xat H k) = false := fun k => by simp [anyP]
  simp only [hany] at hC
  have hin : inB (n : Int) 1 32 = true := by simp [inB]; omega
  clear hH hany
  go_enter Try.func95, Try.ntmps95
  go_wp2_with fail
  refine (HZ _ hv).out.mono ?_
  rintro e w1 ⟨rfl, rfl⟩
  go_wp2_with fail
  go_loopw [14] (fun i wr => ∃ (k : Nat), k ≤ n ∧ i = .int .i64 k ∧ St w.heap.size w wr []) (fun i _ => n - (intOf i).toNat)
  case atStart => exact ⟨0, by omega, rfl, hS0⟩
  case round =>
    clear hS0
    obtain ⟨k, hk, rfl, hS⟩ := hrel
    by_cases hlt : k < n
    · have c1 := (hS.oldII hv).cell k (by rw [Hh.out.sqr.len]; exact hlt)
      have x1 := hix (k : Int) k rfl hlt
      have hrow := hv.row k (by rw [Hh.out.sqr.len]; exact hlt)
      have hrl := Hh.out.sqr.row k hlt
      have HZ2 := fun W h => Lib.hid (size_c (vat us k) (xat H k) W h)
      rw [hrl] at HZ2
      have hlr := hrow.len
      rw [hrl] at hlr
      have hxr := hrow.ixe
      rw [hrl] at hxr
      have Hrl := Lib.hid hrl
      clear hrl
      have hrs := rslII_hi hv.1 k (by rw [hv.2.1, Hh.out.sqr.len]; omega)
      have hro := rslRII hv (k := k) (by rw [Hh.out.sqr.len]; omega)
      have htl : (H.take k).length = k := by rw [List.length_take, Hh.out.sqr.len]; omega
      have hlo := hro.len
      have hxo := hro.ixe
      rw [htl] at hlo hxo
      have Htl := Lib.hid htl
      clear htl
      go_wp2_with fail
      refine (HZ2 _ (hS.oldI hrow)).out.mono ?_
      rintro e w2 ⟨rfl, rfl⟩
      go_wp2_with fail
      refine (hC k hlt _ (hS.oldI hrow)).out.mono ?_
      rintro e w2 ⟨rfl, h2⟩
      have hS2 := hS.call0 h2
      clear h2
      go_wp2_with fail
      go_loopw [31] (fun j wr => ∃ (y : Nat), y ≤ k ∧ j = .int .i64 y ∧ St w.heap.size w wr []) (fun j _ => k - (intOf j).toNat)
      case atStart => exact ⟨0, by omega, rfl, hS2⟩
      case round =>
        clear hS hS2
        obtain ⟨y, hy, rfl, hS⟩ := hrel
        by_cases hly : y < k
        · have c3 := (hS.oldII hro).cell y (by rw [Htl.out]; exact hly)
          rw [vat_take hly] at c3
          have x3 := hxo (y : Int) y rfl hly
          have hrow2 := hv.row y (by rw [Hh.out.sqr.len]; omega)
          have hxr2 := hrow2.ixe
          rw [Hh.out.sqr.row y (by omega)] at hxr2
          go_wp2_with fail
          go_loopw [8, 37] (fun s i wr => ∃ (z : Nat), z ≤ n ∧ i = .int .i64 z ∧ s = .int .i64 (sN z fun t => at2 H k t * at2 H y t) ∧ St w.heap.size w wr []) (fun _ i _ => n - (intOf i).toNat)
          case atStart => exact ⟨0, by omega, rfl, rfl, hS⟩
          case round =>
            clear hS c3
            obtain ⟨z, hz, rfl, rfl, hS⟩ := hrel
            by_cases hlz : z < n
            · have q1 : ∀ s : SS w.heap.size w [], s.w.cell? (el (vat us k) z) = some (.int .i64 (at2 H k z)) := fun s => (s.st.oldI hrow).cell z (by rw [Hrl.out]; exact hlz)
              have q2 : ∀ s : SS w.heap.size w [], s.w.cell? (el (vat us y) z) = some (.int .i64 (at2 H y z)) := fun s => (s.st.oldI hrow2).cell z (by rw [Hh.out.sqr.row y (by omega)]; exact hlz)
              have x4 := hxr (z : Int) z rfl hlz
              have x5 := hxr2 (z : Int) z rfl hlz
              have b1 := sN_bd (n := z) (f := fun t => at2 H k t * at2 H y t) (fun j hj => ((Hh.out.el k j hlt (by omega)).mul (Hh.out.el y j (by omega) (by omega))).bd)
              have b2 := ((Hh.out.el k z hlt hlz).mul (Hh.out.el y z (by omega) hlz)).bd
              have hsn := Lib.hid (show sN (z + 1) (fun t => at2 H k t * at2 H y t) = sN z (fun t => at2 H k t * at2 H y t) + at2 H k z * at2 H y z from rfl)
              generalize sN z (fun t => at2 H k t * at2 H y t) = s at *
              go_wp2_with fail
              have hne : Nonempty (SS _ _ _) := ⟨⟨_, hS⟩⟩
              refine wp_region_st (by kernel_rfl) (by kernel_rfl) hS ?_
              repeat (go_big_quiet_step (fail))
              refine wpQuiet_nil ?_
              rintro _ ⟨s2, rfl⟩
              have hS2 := s2.st
              generalize s2.w = w2 at hS2 ⊢
              go_wp2_with fail
              go_roundw
              case rel => exact ⟨z + 1, by omega, by go_num, by rw [hsn.out], hS2⟩
              case measure => simp [intOf]; omega
            · obtain rfl : z = n := by omega
              have h0 : sN z (fun t => at2 H k t * at2 H y t) = 0 := Hh.out.dot k y hlt (by omega) (by omega)
              rw [h0]
              clear h0
              go_wp2_with fail
              go_roundw
              case rel => exact ⟨y + 1, by omega, by go_num, hS⟩
              case measure => simp [intOf]; omega
        · go_wp2_with fail
          go_roundw
          case rel => exact ⟨k + 1, by omega, by go_num, hS⟩
          case measure => simp [intOf]; omega
    · go_wp2_with fail
      refine (within_c _ _ _ _).mono ?_
      rw [hin]
      rintro e w2 ⟨rfl, rfl⟩
      go_wp2_with fail
      go_ret
      exact ⟨rfl, hS⟩
/-- a row and a fault -/
def IOk (w : World) (xs : List Int) (c : Int) (e : Ending) (w' : World) : Prop := ∃ v, e = .returned (.tuple #[v, .int .i64 c]) ∧ St w.heap.size w w' [row 2 v (iv xs)]
theorem nth_rep (n : Nat) (j : Nat) (h : j < n) : nth (List.replicate n 0) j = 0 := by rw [nth_eq (by simpa using h)]; simp
set_option maxHeartbeats 4000000 in
set_option maxRecDepth 100000 in
theorem ProfileOf_no (v : Value) (us : List Value) (H : List (List Int)) (n : Nat) (w : World) (hv : RII w v us H) (hH : Had n H) (h16 : 16 < n) :
    Calls Try.prog 47 #[v] w (IOk w [] 5) := by
  have hV := fun W h => Lib.hid (ValidHadamard_c v us H n W h hH)
  have HZ := fun W h => Lib.hid (szII_c v us H W h)
  rw [hH.sqr.len] at HZ
  clear hH
  go_enter Try.func47, Try.ntmps47
  go_wp2_with fail
  refine (hV _ hv).out.mono ?_
  rintro e w1 ⟨rfl, h1⟩
  go_wp2_with fail
  refine (HZ _ (h1.oldII hv)).out.mono ?_
  rintro e w2 ⟨rfl, rfl⟩
  go_wp2_with fail
  go_ret2
  exact ⟨_, rfl, h1.nilrw 2⟩
set_option maxHeartbeats 16000000 in
set_option maxRecDepth 100000 in
theorem ProfileOf_c (v : Value) (us : List Value) (H : List (List Int)) (n : Nat) (w : World) (hv : RII w v us H) (hH : Had n H) (h16 : n ≤ 16) :
    Calls Try.prog 47 #[v] w (IOk w (proL n H) 0) := by
  have hV := fun W h => Lib.hid (ValidHadamard_c v us H n W h hH)
  have HZ := fun W h => Lib.hid (szII_c v us H W h)
  rw [hH.sqr.len] at HZ
  have hln := hv.len
  rw [hH.sqr.len] at hln
  have hix := hv.ixe
  rw [hH.sqr.len] at hix
  have n1 := hH.pos
  have Hh := Lib.hid hH
  clear hH
  go_enter Try.func47, Try.ntmps47
  go_wp2_with fail
  refine (hV _ hv).out.mono ?_
  rintro e w1 ⟨rfl, hS1⟩
  go_wp2_with fail
  refine (HZ _ (hS1.oldII hv)).out.mono ?_
  rintro e w2 ⟨rfl, rfl⟩
  by_cases h4 : n < 4
  · have hP := Lib.hid (show proL n H = List.replicate (n + 1) 0 by rw [proL, if_pos h4])
    go_wp2_with (at_make; refine mkI hS1 rfl _ _ rfl _ _ (n + 1) (by go_num) (by go_num) (by omega) ?_; intro vc w3 hS3)
    go_ret2
    exact ⟨_, rfl, by rw [hP.out]; exact hS3⟩
  · have hP := Lib.hid (show proL n H = prf n H (choose n 4).toNat by rw [proL, if_neg h4])
    have HI := fun r hr => Lib.hid (itS_ok (n := n) (by omega) (by omega) r hr)
    have HA := Lib.hid (fun r hr i hi => itS_at (n := n) (by omega) (by omega) (r := r) hr (i := i) hi)
    have HN := Lib.hid (fun r hr => itS_next (n := n) (by omega) (by omega) (r := r) hr)
    have HQ := Lib.hid (fun r hr => qAt_bd Hh.out (by omega) (r := r) hr)
    have HC := Lib.hid (choose_bd n 4)
    have HC0 := Lib.hid (show (0 : Int) < choose n 4 by
      rcases Nat.lt_or_ge n 17 with h | h
      · have : ∀ m, m < 17 → 4 ≤ m → 0 < choose (m : Nat) 4 := by decide +kernel
        exact this n h (by omega)
      · omega)
    go_wp2_with (at_make; refine mkI hS1 rfl _ _ rfl _ _ (n + 1) (by go_num) (by go_num) (by omega) ?_; intro vc w3 hS3)
    have hS4 := hS3.new 2 #[.int .i64 0, .int .i64 1, .int .i64 2, .int .i64 3] (by simp [maxLen])
    have hdt : Value.bool true = Value.bool (decide (((0 : Nat) : Int) < choose n 4)) := by rw [decide_eq_true]; exact HC0.out
    have Hdt := Lib.hid hdt
    simp only [List.nil_append, List.cons_append] at hS4
    clear hS3 hS1 hdt HZ hV
    go_loopg [6, 7] (choose n 4).toNat (fun m c b wr => ∃ (r : Nat) (xs : List Int), (r : Int) ≤ choose n 4 ∧ (choose n 4 - r).toNat = m ∧ b = .bool (decide ((r : Int) < choose n 4)) ∧ Hid ((r : Int) < choose n 4 → xs = itS n r) ∧ St w.heap.size w wr [row 2 vc (iv (prf n H r)), row 2 c (iv xs)])
    case atStart => exact ⟨0, _, by have := HC.out.1; simpa using this, by simp, Hdt.out, fun _ => rfl, hS4⟩
    case round =>
      clear hS4
      obtain ⟨r, xs, hr, hn, rfl, hI, hS⟩ := hrel
      have Hn := Lib.hid hn
      clear hn
      by_cases hlt : (r : Int) < choose n 4
      · have hd : decide ((r : Int) < choose n 4) = true := decide_eq_true hlt
        rw [hd]
        obtain rfl := hI.out hlt
        have Hlt := Lib.hid hlt
        have hxl := (HI r hlt).out.2.1
        obtain ⟨a0, e0, l0⟩ := HA.out r hlt 0 (by omega)
        obtain ⟨a1, e1, l1⟩ := HA.out r hlt 1 (by omega)
        obtain ⟨a2, e2, l2⟩ := HA.out r hlt 2 (by omega)
        obtain ⟨a3, e3, l3⟩ := HA.out r hlt 3 (by omega)
        have hq : qAt n H (itS n r) = sN n fun y => at2 H a0 y * at2 H a1 y * at2 H a2 y * at2 H a3 y := by
          unfold qAt quad pf
          rw [e0, e1, e2, e3]; rfl
        have hr1 := (hS.rdI 1 rfl).ixe
        rw [hxl] at hr1
        have y0 := hr1 0 0 rfl (by omega)
        have y1 := hr1 1 1 rfl (by omega)
        have y2 := hr1 2 2 rfl (by omega)
        have y3 := hr1 3 3 rfl (by omega)
        have i0 := hix (a0 : Int) a0 rfl l0
        have i1 := hix (a1 : Int) a1 rfl l1
        have i2 := hix (a2 : Int) a2 rfl l2
        have i3 := hix (a3 : Int) a3 rfl l3
        have Hx := Lib.hid (And.intro hxl (And.intro e0 (And.intro e1 (And.intro e2 e3))))
        have Hq := Lib.hid hq
        have Hr := Lib.hid hr
        clear hlt hd hxl e0 e1 e2 e3 hr1 hI hq hr
        go_wp2_with fail
        go_loopw [8, 27] (fun s i wx => ∃ (z : Nat), z ≤ n ∧ i = .int .i64 z ∧ s = .int .i64 (sN z fun y => at2 H a0 y * at2 H a1 y * at2 H a2 y * at2 H a3 y) ∧ St w.heap.size w wx [row 2 vc (iv (prf n H r)), row 2 u6 (iv (itS n r))]) (fun _ i _ => n - (intOf i).toNat)
        case atStart => exact ⟨0, by omega, rfl, rfl, hS⟩
        case round =>
          clear hS
          obtain ⟨z, hz, rfl, rfl, hS⟩ := hrel
          by_cases hlz : z < n
          · have s0 := fun s : SS w.heap.size w [row 2 vc (iv (prf n H r)), row 2 u6 (iv (itS n r))] => (s.st.rdI 1 rfl).cell 0 (by rw [Hx.out.1]; omega)
            have s1 := fun s : SS w.heap.size w [row 2 vc (iv (prf n H r)), row 2 u6 (iv (itS n r))] => (s.st.rdI 1 rfl).cell 1 (by rw [Hx.out.1]; omega)
            have s2 := fun s : SS w.heap.size w [row 2 vc (iv (prf n H r)), row 2 u6 (iv (itS n r))] => (s.st.rdI 1 rfl).cell 2 (by rw [Hx.out.1]; omega)
            have s3 := fun s : SS w.heap.size w [row 2 vc (iv (prf n H r)), row 2 u6 (iv (itS n r))] => (s.st.rdI 1 rfl).cell 3 (by rw [Hx.out.1]; omega)
            rw [Hx.out.2.1] at s0
            rw [Hx.out.2.2.1] at s1
            rw [Hx.out.2.2.2.1] at s2
            rw [Hx.out.2.2.2.2] at s3
            have HR : ∀ a, a < n → (∀ s : SS w.heap.size w [row 2 vc (iv (prf n H r)), row 2 u6 (iv (itS n r))], s.w.cell? (el v a) = some (vat us a)) ∧ (∀ s : SS w.heap.size w [row 2 vc (iv (prf n H r)), row 2 u6 (iv (itS n r))], s.w.cell? (el (vat us a) z) = some (.int .i64 (at2 H a z))) ∧ (∀ W, (Instr.indexAt 24 (vat us a) (.int .i64 (z : Int))).run Try.prog W = .ok (.pointer (some (el (vat us a) z))) W) := fun a ha =>
              ⟨fun s => (s.st.oldII hv).cell a (by rw [Hh.out.sqr.len]; exact ha), fun s => ((s.st.oldII hv).row a (by rw [Hh.out.sqr.len]; exact ha)).cell z (by rw [Hh.out.sqr.row a ha]; exact hlz), (hv.row a (by rw [Hh.out.sqr.len]; exact ha)).ixe (z : Int) z rfl (by rw [Hh.out.sqr.row a ha]; exact hlz)⟩
            obtain ⟨p0, q0, x0⟩ := HR a0 l0
            obtain ⟨p1, q1, x1⟩ := HR a1 l1
            obtain ⟨p2, q2, x2⟩ := HR a2 l2
            obtain ⟨p3, q3, x3⟩ := HR a3 l3
            have hm1 := (Hh.out.el a0 z l0 hlz).mul (Hh.out.el a1 z l1 hlz)
            have hm2 := hm1.mul (Hh.out.el a2 z l2 hlz)
            have hm3 := hm2.mul (Hh.out.el a3 z l3 hlz)
            have b1 := hm1.bd
            have b2 := hm2.bd
            have b3 := hm3.bd
            have b4 := sN_bd (n := z) (f := fun y => at2 H a0 y * at2 H a1 y * at2 H a2 y * at2 H a3 y) (fun j hj => ((((Hh.out.el a0 j l0 (by omega)).mul (Hh.out.el a1 j l1 (by omega))).mul (Hh.out.el a2 j l2 (by omega))).mul (Hh.out.el a3 j l3 (by omega))).bd)
            have hsn := Lib.hid (show sN (z + 1) (fun y => at2 H a0 y * at2 H a1 y * at2 H a2 y * at2 H a3 y) = sN z (fun y => at2 H a0 y * at2 H a1 y * at2 H a2 y * at2 H a3 y) + at2 H a0 z * at2 H a1 z * at2 H a2 z * at2 H a3 z from rfl)
            clear HR hm1 hm2 hm3
            generalize sN z (fun y => at2 H a0 y * at2 H a1 y * at2 H a2 y * at2 H a3 y) = s at *
            go_wp2_with fail
            have hne : Nonempty (SS _ _ _) := ⟨⟨_, hS⟩⟩
            refine wp_region_st (by kernel_rfl) (by kernel_rfl) hS ?_
            repeat (go_big_quiet_step (fail))
            refine wpQuiet_nil ?_
            rintro _ ⟨s2, rfl⟩
            have hS2 := s2.st
            generalize s2.w = w2 at hS2 ⊢
            go_wp2_with fail
            go_roundw
            case rel => exact ⟨z + 1, by omega, by go_num, by rw [hsn.out], hS2⟩
            case measure => simp [intOf]; omega
          · obtain rfl : z = n := by omega
            have hb := HQ.out r Hlt.out
            rw [Hq.out] at hb
            have hpr := Lib.hid (show prf z H (r + 1) = (prf z H r).set (absI (sN z fun y => at2 H a0 y * at2 H a1 y * at2 H a2 y * at2 H a3 y)).toNat (nth (prf z H r) (absI (sN z fun y => at2 H a0 y * at2 H a1 y * at2 H a2 y * at2 H a3 y)).toNat + 1) by rw [prf, Hq.out])
            have hA := fun W (h : -1000000 ≤ (sN z fun y => at2 H a0 y * at2 H a1 y * at2 H a2 y * at2 H a3 y) ∧ (sN z fun y => at2 H a0 y * at2 H a1 y * at2 H a2 y * at2 H a3 y) ≤ 1000000) => Lib.hid (show Calls Try.prog 96 #[.int .i64 (sN z fun y => at2 H a0 y * at2 H a1 y * at2 H a2 y * at2 H a3 y)] W fun e w' => e = .returned (.int .i64 (absI (sN z fun y => at2 H a0 y * at2 H a1 y * at2 H a2 y * at2 H a3 y))) ∧ W = w' from abs_c _ W h)
            have hsb : -1000000 ≤ (sN z fun y => at2 H a0 y * at2 H a1 y * at2 H a2 y * at2 H a3 y) ∧ (sN z fun y => at2 H a0 y * at2 H a1 y * at2 H a2 y * at2 H a3 y) ≤ 1000000 := by
              unfold absI at hb; split at hb <;> omega
            generalize (sN z fun y => at2 H a0 y * at2 H a1 y * at2 H a2 y * at2 H a3 y) = s at *
            obtain ⟨q, hq⟩ : ∃ q : Nat, absI s = q := ⟨(absI s).toNat, by omega⟩
            rw [hq] at hA hpr hb
            rw [Int.toNat_natCast] at hpr
            have hqz : q < (prf z H r).length := by rw [prf_len]; omega
            have hrc := hS.rdI 0 rfl
            have cq := hrc.cell q hqz
            have xq := hrc.ixe (q : Int) q rfl hqz
            have uq := hS.unfrozen 0 rfl (j := q) (by rw [iv_len]; exact hqz)
            have hpb : 0 ≤ nth (prf z H r) q ∧ nth (prf z H r) q ≤ 1000000000 := by
              have := prf_bd z H q r
              have := HC.out
              have := Hlt.out
              omega
            have Hs := Lib.hid (And.intro hsb hqz)
            clear hb hq hrc hsb hqz
            go_wp2_with fail
            refine (hA _ Hs.out.1).out.mono ?_
            rintro e w4 ⟨rfl, rfl⟩
            go_wp2_with (refine stoI hS 0 rfl q Hs.out.2 rfl (.tmp 78) (.tmp 77) rfl rfl _ rfl ?_; intro w5 hS5)
            have hS6 : St w.heap.size w w5 [row 2 vc (iv (prf z H (r + 1))), row 2 u6 (iv (itS z r))] := by rw [hpr.out]; exact hS5
            clear hS5 hS cq
            refine (NextSubset_c u6 (itS z r) z w5 (hS6.rdI 1 rfl)).mono ?_
            rw [HN.out r Hlt.out]
            rintro e w6 ⟨v6, rfl, h6⟩
            have hS7 := (hS6.call h6).sub (L' := [row 2 vc (iv (prf z H (r + 1))), row 2 v6 (iv ((if (r : Int) + 1 < choose z 4 then some (itS z (r + 1)) else none).getD []))]) (((List.Sublist.refl _).cons _).cons_cons _)
            have e2 : Hid ((if (r : Int) + 1 < choose z 4 then some (itS z (r + 1)) else none).isSome = decide (((r + 1 : Nat) : Int) < choose z 4)) := by
              unfold Hid
              by_cases h : (r : Int) + 1 < choose z 4
              · rw [if_pos h, decide_eq_true (by push_cast; exact h)]; rfl
              · rw [if_neg h, decide_eq_false (by push_cast; exact h)]; rfl
            rw [e2.out]
            clear hS6 h6
            go_wp2_with fail
            go_roundg (choose z 4 - ((r + 1 : Nat) : Int)).toNat
            case measure => have := Hn.out; have := Hlt.out; omega
            case rel =>
              refine ⟨r + 1, _, by have := Hlt.out; push_cast; omega, rfl, rfl, ?_, hS7⟩
              intro h
              rw [if_pos (by push_cast at h; exact h)]; rfl
      · have hd : decide ((r : Int) < choose n 4) = false := decide_eq_false hlt
        have hrc := Lib.hid (show (choose n 4).toNat = r by omega)
        rw [hd]
        clear hd hlt hr
        go_wp2_with fail
        go_ret2
        exact ⟨_, rfl, by rw [hP.out, hrc.out]; exact hS.sub (List.Sublist.cons_cons _ (List.nil_sublist _))⟩
end Go.Proofs.Ytpfgbbbjldpnnaa
