/- Walks: permutations that are made and drawn; composition, inverses. Walks: composition and inverses of permutations. -/
import Derived.Test.YtpfgbbbjldpnnaaPm1
import Derived.Test.YtpfgbbbjldpnnaaAt
namespace Go.Proofs.Ytpfgbbbjldpnnaa
set_option linter.unusedSimpArgs false
set_option linter.unusedVariables false
open Go.RowKit
attribute [local go_sem ↓] Go.wp_at_zero Go.wp_at_succ


/-- a permutation of n numbers, in memory of its own -/
def MakesP (w : World) (n : Nat) (e : Ending) (w' : World) : Prop := ∃ v xs, e = .returned v ∧ xs.length = n ∧ IsP xs ∧ St w.heap.size w w' [row 2 v (iv xs)]
set_option maxHeartbeats 2000000 in
set_option maxRecDepth 100000 in
theorem b10Perm_c (w : World) (cm : Value) (ms : List UInt8) (n : Nat) (hm : RdB w cm ms) (hn : n ≤ 1000) : Calls Try.prog 14 #[cm, .int .i64 n] w (MakesP w n) := by
  have hS0 : St w.heap.size w (w.alloc (.cells #[] 2)) [row 2 (.slice (some ⟨w.heap.size, 0, none⟩) 0 0) (iv [])] := (St.refl w).new 2 #[] (by simp)
  go_enter Try.func14, Try.ntmps14
  go_wp2_with fail
  go_loopw [5, 6] (fun o x wr => ∃ k : Nat, k ≤ n ∧ x = .int .i64 k ∧ St w.heap.size w wr [row 2 o (iv (iot k))]) (fun _ x _ => n - (intOf x).toNat)
  case atStart => exact ⟨0, by omega, rfl, hS0⟩
  case round =>
    obtain ⟨k, hk, rfl, hS⟩ := hrel
    have hkl := iot_len k
    by_cases hlt : k < n
    · go_wp2_with (at_builtin; refine appI hS 0 rfl (by omega) rfl _ _ rfl rfl _ rfl ?_; intro v2 w2 hS2)
      go_roundw
      case rel => exact ⟨k + 1, by omega, by go_num, by rw [iot_succ]; exact hS2⟩
      case measure => simp [intOf]; omega
    · obtain rfl : k = n := by omega
      go_wp2_with fail
      go_loopw [7, 8, 9] (fun x _ _ wr => ∃ (j : Nat) (xs : List Int), j ≤ k ∧ x = .int .i64 ((j : Int) - 1) ∧ Hid (xs.length = k) ∧ Hid (IsP xs) ∧ St w.heap.size w wr [row 2 u5 (iv xs)]) (fun x _ _ _ => (intOf x).toNat)
      case atStart => exact ⟨k, iot k, by omega, by go_num, iot_len k, iot_isP k, hS⟩
      case round =>
        clear hS
        obtain ⟨j, xs, hj, rfl, hl, hp, hS⟩ := hrel
        by_cases h2 : 2 ≤ j
        · go_wp2_with fail
          refine (b10At_c _ cm ms ((j : Int) - 1) j (hS.oldB hm) (by omega) (by omega) (by omega)).mono ?_
          rintro e w2 ⟨x, rfl, x0, x1, rfl⟩
          obtain ⟨y, rfl⟩ := Int.eq_ofNat_of_zero_le x0
          have hyk : y < k := by omega
          have hr := hS.rdI 0 rfl
          have hi1 := hr.ixe ((j : Int) - 1) (j - 1) (by omega) (by rw [hl.out]; omega)
          have hi2 := hr.ixe (y : Int) y rfl (by rw [hl.out]; omega)
          have hc1 := hr.cell (j - 1) (by rw [hl.out]; omega)
          have hc2 := hr.cell y (by rw [hl.out]; omega)
          have Hsw := Lib.hid (hp.out.swp (i := j - 1) (k := y) (by rw [hl.out]; omega) (by rw [hl.out]; omega))
          clear hr x1 x0
          go_wp2_with (first
            | (refine stoI hS2 0 rfl y (by rw [List.length_set, hl.out]; exact hyk) rfl _ _ rfl rfl _ rfl ?_; intro w3 hS3)
            | (refine stoI hS 0 rfl (j - 1) (by rw [hl.out]; omega) rfl _ _ rfl rfl _ rfl ?_; intro w2 hS2))
          go_roundw
          case rel => exact ⟨j - 1, swp2 xs (j - 1) y, by omega, by go_num, by unfold Hid; rw [swp2_len]; exact hl.out, Hsw.out, hS3⟩
          case measure => simp [intOf]; omega
        · go_wp2_with fail
          go_ret
          exact ⟨_, xs, rfl, hl.out, hp.out, hS⟩

set_option maxHeartbeats 1000000 in
set_option maxRecDepth 100000 in
theorem l04One_c (n : Nat) (w : World) (hn : n ≤ 1000) : Calls Try.prog 106 #[.int .i64 n] w (MakesI w (iot n)) := by
  have hS0 : St w.heap.size w (w.alloc (.cells #[] 2)) [row 2 (.slice (some ⟨w.heap.size, 0, none⟩) 0 0) (iv [])] := (St.refl w).new 2 #[] (by simp)
  go_enter Try.func106, Try.ntmps106
  go_wp2_with fail
  go_loopw [3, 4] (fun o x wr => ∃ k : Nat, k ≤ n ∧ x = .int .i64 k ∧ St w.heap.size w wr [row 2 o (iv (iot k))]) (fun _ x _ => n - (intOf x).toNat)
  case atStart => exact ⟨0, by omega, rfl, hS0⟩
  case round =>
    obtain ⟨k, hk, rfl, hS⟩ := hrel
    have hkl := iot_len k
    by_cases hlt : k < n
    · go_wp2_with (at_builtin; refine appI hS 0 rfl (by omega) rfl _ _ rfl rfl _ rfl ?_; intro v2 w2 hS2)
      go_roundw
      case rel => exact ⟨k + 1, by omega, by go_num, by rw [iot_succ]; exact hS2⟩
      case measure => simp [intOf]; omega
    · obtain rfl : k = n := by omega
      go_wp2_with fail
      go_ret
      exact ⟨_, rfl, hS⟩
/-- a permutation of n numbers, and the source goes on -/
def PermS (w0 : World) (cv : Value) (g K n : Nat) (L : List Ent) (e : Ending) (w' : World) : Prop := ∃ v xs, e = .returned v ∧ xs.length = n ∧ IsP xs ∧ Src w0 w' cv g K (row 2 v (iv xs) :: L)
set_option maxHeartbeats 2000000 in
set_option maxRecDepth 100000 in
theorem l04DrawPerm_c (w0 w : World) (cv : Value) (bs : List UInt8) (g K : Nat) (L : List Ent) (n : Nat) (hb : RdB w0 cv bs) (h : Src w0 w cv g K L) (hK : K < 100000000000) (hn : n ≤ 1000) :
    Calls Try.prog 71 #[.pointer (some ⟨g, 0, none⟩), .int .i64 n] w (PermS w0 cv g (K + 2 * n) n L) := by
  go_enter Try.func71, Try.ntmps71
  go_wp2_with fail
  refine (l04One_c n w hn).mono ?_
  rintro e w1 ⟨u, rfl, h1⟩
  have h2 := (h.call h1).perm List.perm_append_comm
  simp only [List.cons_append, List.nil_append] at h2
  clear h h1
  go_wp2_with fail
  go_loopw [6, 7, 8] (fun x _ _ wr => ∃ (j : Nat) (xs : List Int), j ≤ n ∧ x = .int .i64 ((j : Int) - 1) ∧ Hid (xs.length = n) ∧ Hid (IsP xs) ∧ Src w0 wr cv g (K + 2 * (n - j)) (row 2 u (iv xs) :: L)) (fun x _ _ _ => (intOf x).toNat)
  case atStart => exact ⟨n, iot n, by omega, by go_num, iot_len n, iot_isP n, h2.mono (by omega)⟩
  case round =>
    clear h2
    obtain ⟨j, xs, hj, rfl, hl, hp, hs⟩ := hrel
    by_cases h2 : 2 ≤ j
    · go_wp2_with fail
      refine (pick_c w0 wr cv bs g _ _ _ hb hs (by omega)).mono ?_
      rintro e w2 ⟨x, x0, x1, rfl, h3⟩
      obtain ⟨y, rfl⟩ := Int.eq_ofNat_of_zero_le x0
      have hyj : y < j := by omega
      have hyk : y < n := by omega
      have hr := h3.rdI 0 rfl
      have hi1 := hr.ixe ((j : Int) - 1) (j - 1) (by omega) (by rw [hl.out]; omega)
      have hi2 := hr.ixe (y : Int) y rfl (by rw [hl.out]; omega)
      have hc1 := hr.cell (j - 1) (by rw [hl.out]; omega)
      have hc2 := hr.cell y (by rw [hl.out]; omega)
      have Hsw := Lib.hid (hp.out.swp (i := j - 1) (k := y) (by rw [hl.out]; omega) (by rw [hl.out]; omega))
      obtain ⟨pp, ss, s0, s1, hS⟩ := h3
      clear hr x1 x0 hs
      go_wp2_with (first
        | (refine stoI hS2 1 rfl y (by rw [List.length_set, hl.out]; exact hyk) rfl _ _ rfl rfl _ rfl ?_; intro w3 hS3)
        | (refine stoI hS 1 rfl (j - 1) (by rw [hl.out]; omega) rfl _ _ rfl rfl _ rfl ?_; intro w2 hS2))
      go_roundw
      case rel => exact ⟨j - 1, swp2 xs (j - 1) y, by omega, by go_num, by unfold Hid; rw [swp2_len]; exact hl.out, Hsw.out, pp, ss, s0, by omega, hS3⟩
      case measure => simp [intOf]; omega
    · go_wp2_with fail
      go_ret
      exact ⟨_, xs, rfl, hl.out, hp.out, hs.mono (by omega)⟩
/-- some list of at most m numbers, and the source goes on -/
def ListS (w0 : World) (cv : Value) (g K m : Nat) (L : List Ent) (e : Ending) (w' : World) : Prop := ∃ v xs, e = .returned v ∧ xs.length ≤ m ∧ Src w0 w' cv g K (row 2 v (iv xs) :: L)
theorem deg_ok {x : Int} (h : x ∈ ([0, 1, 2, 3, 5, 6, 8, 12, 13, 32] : List Int)) : ∃ n : Nat, x = n ∧ n ≤ 32 := by
  have : ([0, 1, 2, 3, 5, 6, 8, 12, 13, 32] : List Int).all (fun x => decide (0 ≤ x) && decide (x ≤ 32)) = true := by decide
  have := List.all_eq_true.1 this x h
  simp only [Bool.and_eq_true, decide_eq_true_eq] at this
  exact ⟨x.toNat, by omega, by omega⟩
set_option maxHeartbeats 4000000 in
set_option maxRecDepth 100000 in
theorem l04Draw_c (w0 w : World) (cv : Value) (bs : List UInt8) (g K : Nat) (L : List Ent) (hb : RdB w0 cv bs) (h : Src w0 w cv g K L) (hK : K < 10000000000) :
    Calls Try.prog 54 #[.pointer (some ⟨g, 0, none⟩)] w (ListS w0 cv g (K + 100) 33 L) := by
  go_enter Try.func54, Try.ntmps54
  go_wp2_with fail
  refine (among_lit [0, 1, 2, 3, 5, 6, 8, 12, 13, 32] w0 w cv bs g _ L hb h (by decide) (by omega)).mono ?_
  rintro e w1 ⟨x, hx, rfl, h1⟩
  obtain ⟨n, rfl, hn⟩ := deg_ok hx
  clear hx h
  go_wp2_with fail
  refine (l04DrawPerm_c w0 w1 cv bs g _ L n hb h1 (by omega) (by omega)).mono ?_
  rintro e w2 ⟨u, xs, rfl, hl, hp, h2⟩
  have Hl := Lib.hid hl
  clear hl hp h1
  have hln := (h2.rdI 0 rfl).len
  rw [Hl.out] at hln
  go_wp2_with fail
  refine (pick_c w0 w2 cv bs g _ _ 8 hb h2 (by omega)).mono ?_
  rintro e w3 ⟨x, x0, x1, rfl, h3⟩
  by_cases e0 : x = 0
  · subst e0
    by_cases hn0 : 0 < n
    · go_wp2_with fail
      refine (pick_c w0 w3 cv bs g _ _ n hb h3 (by omega)).mono ?_
      rintro e w4 ⟨y, y0, y1, rfl, h4⟩
      obtain ⟨y, rfl⟩ := Int.eq_ofNat_of_zero_le y0
      have hy : y < n := by omega
      go_wp2_with fail
      refine (among_lit [-1, 0, 1, 33, (n : Int)] w0 w4 cv bs g _ _ hb h4 (by simp) (by omega)).mono ?_
      rintro e w5 ⟨z, _, rfl, h5⟩
      have hi2 := (h5.rdI 0 rfl).ixe (y : Int) y rfl (by rw [Hl.out]; omega)
      obtain ⟨pp, ss, s0, s1, hS⟩ := h5
      go_wp2_with (refine stoI hS 1 rfl y (by rw [Hl.out]; exact hy) rfl _ _ rfl rfl _ rfl ?_; intro w6 hS6)
      go_ret
      exact ⟨_, _, rfl, by rw [List.length_set, Hl.out]; omega, pp, ss, s0, by omega, hS6⟩
    · go_wp2_with fail
      go_ret
      exact ⟨_, xs, rfl, by rw [Hl.out]; omega, h3.mono (by omega)⟩
  · have f0 := eq_f e0
    by_cases e1 : x = 1
    · subst e1
      go_wp2_with fail
      refine (one_c w0 w3 cv bs g _ _ 4 hb h3 (by omega)).mono ?_
      rintro e w4 ⟨b, rfl, h4⟩
      cases b
      · go_wp2_with fail
        go_ret
        exact ⟨_, xs, rfl, by rw [Hl.out]; omega, h4.mono (by omega)⟩
      · obtain ⟨pp, ss, s0, s1, hS⟩ := h4
        go_wp2_with (at_builtin; refine appI hS 1 rfl (by rw [Hl.out]; omega) rfl _ _ rfl rfl _ rfl ?_; intro v6 w6 hS6)
        go_ret
        exact ⟨_, _, rfl, by rw [List.length_append, Hl.out]; simp; omega, pp, ss, s0, by omega, hS6⟩
    · have f1 := eq_f e1
      go_wp2_with fail
      go_ret
      exact ⟨_, xs, rfl, by rw [Hl.out]; omega, h3.mono (by omega)⟩


/-- a list and a code -/
def MakesLK (w : World) (xs : List Int) (c : Int) (e : Ending) (w' : World) : Prop := ∃ v, e = .returned (.tuple #[v, .int .i64 c]) ∧ St w.heap.size w w' [row 2 v (iv xs)]
theorem St.nilI {B : Nat} {w0 w : World} {L : List Ent} (h : St B w0 w L) : St B w0 w [row 2 (.slice none 0 0) (iv [])] := (h.out).emp
/-- what Compose gives -/
noncomputable def cmC (xs ys : List Int) : Int := if pvB xs && pvB ys then (if xs.length = ys.length then 0 else 2) else 1
noncomputable def cmV (xs ys : List Int) : List Int := if cmC xs ys = 0 then cmpL xs ys else []
theorem cmC_0 {xs ys : List Int} (h1 : pvB xs = true) (h2 : pvB ys = true) (h : xs.length = ys.length) : cmC xs ys = 0 := by rw [cmC, h1, h2, if_pos (show (true && true) = true from rfl), if_pos h]
theorem cmC_2 {xs ys : List Int} (h1 : pvB xs = true) (h2 : pvB ys = true) (h : xs.length ≠ ys.length) : cmC xs ys = 2 := by rw [cmC, h1, h2, if_pos (show (true && true) = true from rfl), if_neg h]
theorem cmC_1 {xs ys : List Int} (h : pvB xs = false ∨ pvB ys = false) : cmC xs ys = 1 := by
  rw [cmC, if_neg]
  rcases h with h | h <;> rw [h] <;> simp
theorem cmV_no {xs ys : List Int} (h : cmC xs ys ≠ 0) : cmV xs ys = [] := by rw [cmV, if_neg h]
theorem cmV_yes {xs ys : List Int} (h : cmC xs ys = 0) : cmV xs ys = cmpL xs ys := by rw [cmV, if_pos h]

set_option maxHeartbeats 2000000 in
set_option maxRecDepth 100000 in
theorem compose_c (v u : Value) (xs ys : List Int) (w : World) (hv : RdI w v xs) (hu : RdI w u ys) (hp : IsP xs) (hl : xs.length = ys.length) (hN : xs.length ≤ 1000) :
    Calls Try.prog 65 #[v, u] w (MakesI w (cmpL xs ys)) := by
  have hlx := hv.len
  have hix := hv.ix
  have hiu := hu.ix
  have HP := Lib.hid hp
  have Hl := Lib.hid hl
  rw [← hl] at hiu
  clear hp hl
  go_enter Try.func65, Try.ntmps65
  go_wp2_with (at_make; refine mkI (St.refl w) rfl _ _ rfl _ _ xs.length rfl rfl (by omega) ?_; intro r w1 hS1; have hr := hS1.rdI 0 rfl; have hln := hr.len; have hir := hr.ix; simp only [List.length_replicate] at hln hir; clear hr)
  go_loopw [6, 12] (fun _ x wr => ∃ (k : Nat) (zs : List Int), k ≤ xs.length ∧ x = .int .i64 k ∧ Hid (zs.length = xs.length) ∧ Hid (∀ j, j < k → nth zs j = nth ys (pf xs j)) ∧ St w.heap.size w wr [row 2 r (iv zs)]) (fun _ x _ => xs.length - (intOf x).toNat)
  case atStart => exact ⟨0, _, by omega, rfl, by unfold Hid; simp, fun j hj => by omega, hS1⟩
  case round =>
    clear hS1
    obtain ⟨k, zs, hk, rfl, hz, hI, hS⟩ := hrel
    by_cases hlt : k < xs.length
    · have hck := (hS.oldI hv).cell k hlt
      have hpk := nth_pf HP.out hlt
      have hpl := HP.out.pf_lt hlt
      have hcu := (hS.oldI hu).cell (pf xs k) (by rw [← Hl.out]; exact hpl)
      rw [hpk] at hck
      clear hpk
      go_wp2_with (refine stoI hS 0 rfl k (by rw [hz.out]; exact hlt) rfl _ _ rfl rfl _ rfl ?_; intro w2 hS2)
      go_roundw
      case rel => exact ⟨k + 1, zs.set k (nth ys (pf xs k)), by omega, by go_num, by unfold Hid; rw [List.length_set]; exact hz.out, fun j hj => by
        rw [nth_set (by rw [hz.out]; exact hlt)]
        by_cases e : k = j
        · subst e; rw [if_pos rfl]
        · rw [if_neg e]; exact hI.out j (by omega), hS2⟩
      case measure => simp [intOf]; omega
    · obtain rfl : k = xs.length := by omega
      have he : zs = cmpL xs ys := nth_ext (by rw [cmpL_len]; exact hz.out) fun j hj => by rw [hz.out] at hj; rw [hI.out j hj, nth_cmpL hj]
      have He := Lib.hid he
      clear he
      go_wp2_with fail
      go_ret
      exact ⟨_, rfl, by rw [← He.out]; exact hS⟩
set_option maxHeartbeats 2000000 in
set_option maxRecDepth 100000 in
theorem Compose_c (v u : Value) (xs ys : List Int) (w : World) (hv : RdI w v xs) (hu : RdI w u ys) (hx : xs.length ≤ 1048576) (hy : ys.length ≤ 1048576) :
    Calls Try.prog 15 #[v, u] w (MakesLK w (cmV xs ys) (cmC xs ys)) := by
  have hlx := hv.len
  have hly := hu.len
  have HX := Lib.hid (ValidPermutation_c v xs w hv hx)
  have HY := fun W (h : RdI W u ys) => Lib.hid (ValidPermutation_c u ys W h hy)
  cases h1 : pvB xs
  · have H := Lib.hid (cmC_1 (xs := xs) (ys := ys) (.inl h1))
    have H2 := Lib.hid (cmV_no (xs := xs) (ys := ys) (by rw [H.out]; decide))
    rw [h1] at HX
    clear h1
    go_enter Try.func15, Try.ntmps15
    go_wp2_with fail
    refine HX.out.mono ?_
    rintro e w1 ⟨rfl, hS1⟩
    go_wp2_with fail
    go_ret2
    exact ⟨_, by rw [H.out]; rfl, by rw [H2.out]; exact hS1.nilI⟩
  · rw [h1] at HX
    have H1 := Lib.hid h1
    clear h1
    cases h2 : pvB ys
    · have H := Lib.hid (cmC_1 (xs := xs) (ys := ys) (.inr h2))
      have H2 := Lib.hid (cmV_no (xs := xs) (ys := ys) (by rw [H.out]; decide))
      rw [h2] at HY
      clear h2
      go_enter Try.func15, Try.ntmps15
      go_wp2_with fail
      refine HX.out.mono ?_
      rintro e w1 ⟨rfl, hS1⟩
      go_wp2_with (go_at_call 58; refine (HY _ (hS1.oldI hu)).out.mono ?_; rintro e w2 ⟨rfl, hS2'⟩; have hS2 := hS1.call0 hS2')
      go_ret2
      exact ⟨_, by rw [H.out]; rfl, by rw [H2.out]; exact hS2.nilI⟩
    · have Hp2 := Lib.hid h2
      rw [h2] at HY
      clear h2
      by_cases hl : xs.length = ys.length
      · have H := Lib.hid (cmC_0 H1.out Hp2.out hl)
        have H2 := Lib.hid (cmV_yes H.out)
        have HC := fun W (hv : RdI W v xs) (hu : RdI W u ys) => Lib.hid (compose_c v u xs ys W hv hu (pvB_t H1.out).2 hl (by have := (pvB_t H1.out).1; omega))
        have f1 : ((xs.length : Int) != (ys.length : Int)) = false := ne_f (by omega)
        clear hl
        go_enter Try.func15, Try.ntmps15
        go_wp2_with fail
        refine HX.out.mono ?_
        rintro e w1 ⟨rfl, hS1⟩
        go_wp2_with (go_at_call 58; refine (HY _ (hS1.oldI hu)).out.mono ?_; rintro e w2 ⟨rfl, hS2'⟩; have hS2 := hS1.call0 hS2')
        refine (HC _ (hS2.oldI hv) (hS2.oldI hu)).out.mono ?_
        rintro e w3 ⟨r, rfl, h3⟩
        have hS3 := hS2.trans h3
        go_wp2_with fail
        go_ret2
        exact ⟨_, by rw [H.out]; rfl, by rw [H2.out]; exact hS3⟩
      · have H := Lib.hid (cmC_2 H1.out Hp2.out hl)
        have H2 := Lib.hid (cmV_no (xs := xs) (ys := ys) (by rw [H.out]; decide))
        have f1 : ((xs.length : Int) != (ys.length : Int)) = true := ne_t (by omega)
        clear hl
        go_enter Try.func15, Try.ntmps15
        go_wp2_with fail
        refine HX.out.mono ?_
        rintro e w1 ⟨rfl, hS1⟩
        go_wp2_with (go_at_call 58; refine (HY _ (hS1.oldI hu)).out.mono ?_; rintro e w2 ⟨rfl, hS2'⟩; have hS2 := hS1.call0 hS2')
        go_ret2
        exact ⟨_, by rw [H.out]; rfl, by rw [H2.out]; exact hS2.nilI⟩
set_option maxHeartbeats 2000000 in
set_option maxRecDepth 100000 in
theorem inverse_c (v : Value) (xs : List Int) (w : World) (hv : RdI w v xs) (hp : IsP xs) (hN : xs.length ≤ 1000) :
    Calls Try.prog 77 #[v] w (MakesI w (invL xs)) := by
  have hlx := hv.len
  have hix := hv.ix
  have HP := Lib.hid hp
  have HI := Lib.hid (show invL xs = invQ xs xs.length from rfl)
  clear hp
  go_enter Try.func77, Try.ntmps77
  go_wp2_with (at_make; refine mkI (St.refl w) rfl _ _ rfl _ _ xs.length rfl rfl (by omega) ?_; intro r w1 hS1; have hr := hS1.rdI 0 rfl; have hir := hr.ix; simp only [List.length_replicate] at hir; clear hr)
  go_loopw [4, 5, 11] (fun _ _ x wr => ∃ k : Nat, k ≤ xs.length ∧ x = .int .i64 k ∧ St w.heap.size w wr [row 2 r (iv (invQ xs k))]) (fun _ _ x _ => xs.length - (intOf x).toNat)
  case atStart => exact ⟨0, by omega, rfl, hS1⟩
  case round =>
    clear hS1
    obtain ⟨k, hk, rfl, hS⟩ := hrel
    by_cases hlt : k < xs.length
    · have hck := (hS.oldI hv).cell k hlt
      have hpk := nth_pf HP.out hlt
      have hpl := HP.out.pf_lt hlt
      have hlk := invQ_len xs k
      rw [hpk] at hck
      clear hpk
      have HlK := Lib.hid hlk
      clear hlk
      go_wp2_with (refine stoI hS 0 rfl (pf xs k) (by rw [HlK.out]; exact hpl) rfl _ _ rfl rfl _ rfl ?_; intro w2 hS2)
      go_roundw
      case rel => exact ⟨k + 1, by omega, by go_num, hS2⟩
      case measure => simp [intOf]; omega
    · obtain rfl : k = xs.length := by omega
      go_wp2_with fail
      go_ret
      exact ⟨_, rfl, by rw [HI.out]; exact hS⟩
set_option maxHeartbeats 2000000 in
set_option maxRecDepth 100000 in
theorem InvertPermutation_c (v : Value) (xs : List Int) (w : World) (hv : RdI w v xs) (hx : xs.length ≤ 1048576) (hp : pvB xs = true) :
    Calls Try.prog 22 #[v] w (MakesLK w (invL xs) 0) := by
  have HX := Lib.hid (ValidPermutation_c v xs w hv hx)
  rw [hp] at HX
  have HC := fun W (hv : RdI W v xs) => Lib.hid (inverse_c v xs W hv (pvB_t hp).2 (by have := (pvB_t hp).1; omega))
  clear hp
  go_enter Try.func22, Try.ntmps22
  go_wp2_with fail
  refine HX.out.mono ?_
  rintro e w1 ⟨rfl, hS1⟩
  go_wp2_with fail
  refine (HC _ (hS1.oldI hv)).out.mono ?_
  rintro e w2 ⟨r, rfl, h2⟩
  have hS2 := hS1.trans h2
  go_wp2_with fail
  go_ret2
  exact ⟨_, rfl, hS2⟩
set_option maxHeartbeats 1000000 in
set_option maxRecDepth 100000 in
theorem ident_c (n : Nat) (w : World) (hn : n ≤ 1048576) : Calls Try.prog 68 #[.int .i64 n] w (MakesI w (iot n)) := by
  go_enter Try.func68, Try.ntmps68
  go_wp2_with (at_make; refine mkI (St.refl w) rfl _ _ rfl _ _ n rfl rfl (by omega) ?_; intro v1 w1 hS1; have hr := hS1.rdI 0 rfl; have hln := hr.len; have hix := hr.ix; simp only [List.length_replicate] at hln hix; clear hr)
  go_loopw [4, 9] (fun _ i wr => ∃ k : Nat, k ≤ n ∧ i = .int .i64 k ∧ St w.heap.size w wr [row 2 v1 (iv (iot k ++ List.replicate (n - k) 0))]) (fun _ i _ => n - (intOf i).toNat)
  case atStart => exact ⟨0, by omega, rfl, hS1⟩
  case round =>
    obtain ⟨k, hk, rfl, hS⟩ := hrel
    by_cases hlt : k < n
    · go_wp2_with (refine stoI hS 0 rfl k (by simp [iot]; omega) rfl _ _ rfl rfl _ rfl ?_; intro w2 hS2)
      go_roundw
      case rel =>
        refine ⟨k + 1, by omega, by go_num, ?_⟩
        have e : (iot k ++ List.replicate (n - k) 0).set k (k : Int) = iot (k + 1) ++ List.replicate (n - (k + 1)) 0 := by
          rw [List.set_append_right _ _ (by rw [iot_len]; omega), iot_len, show n - k = (n - (k + 1)) + 1 by omega, List.replicate_succ]
          simp [iot, List.range_succ]
        rw [← e]; exact hS2
      case measure => simp [intOf]; omega
    · obtain rfl : k = n := by omega
      go_wp2_with fail
      go_ret
      refine ⟨_, rfl, ?_⟩
      simpa using hS
set_option maxHeartbeats 1000000 in
set_option maxRecDepth 100000 in
theorem IdentityPermutation_c (n : Nat) (w : World) (hn : n ≤ 32) : Calls Try.prog 33 #[.int .i64 n] w (MakesLK w (iot n) 0) := by
  have i1 : inB (n : Int) 0 32 = true := inB_true (by omega)
  go_enter Try.func33, Try.ntmps33
  go_wp2_with fail
  refine (within_c _ _ _ _).mono ?_
  rintro e w1 ⟨rfl, rfl⟩
  go_wp2_with fail
  refine (ident_c n w (by omega)).mono ?_
  rintro e w2 ⟨r, rfl, h2⟩
  go_wp2_with fail
  go_ret2
  exact ⟨_, rfl, h2⟩

end Go.Proofs.Ytpfgbbbjldpnnaa
