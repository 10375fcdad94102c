/- Walks: composition and inverses of permutations. -/
import Derived.Test.YtpfgbbbjldpnnaaPm2
namespace Go.Proofs.Ytpfgbbbjldpnnaa
set_option linter.unusedSimpArgs false
set_option linter.unusedVariables false
open Go.RowKit
attribute [local go_sem ↓] Go.wp_at_zero Go.wp_at_succ

/-- a list and a code -/
def MakesLK (w : World) (xs : List Int) (c : Int) (e : Ending) (w' : World) : Prop := ∃ v, e = .returned (.tuple #[v, .int .i64 c]) ∧ St w.heap.size w w' [row 2 v (iv xs)]
theorem St.nilI {B : Nat} {w0 w : World} {L : List Ent} (h : St B w0 w L) : St B w0 w [row 2 (.slice none 0 0) (iv [])] := (h.out).emp
/-- what Compose gives -/
noncomputable def cmC (xs ys : List Int) : Int := if pvB xs && pvB ys then (if xs.length = ys.length then 0 else 2) else 1
noncomputable def cmV (xs ys : List Int) : List Int := if cmC xs ys = 0 then cmpL xs ys else []
theorem cmC_0 {xs ys : List Int} (h1 : pvB xs = true) (h2 : pvB ys = true) (h : xs.length = ys.length) : cmC xs ys = 0 := by rw [cmC, h1, h2, if_pos (show (true && true) = true from rfl), if_pos h]
theorem cmC_2 {xs ys : List Int} (h1 : pvB xs = true) (h2 : pvB ys = true) (h : xs.length ≠ ys.length) : cmC xs ys = 2 := by rw [cmC, h1, h2, if_pos (show (true && true) = true from rfl), if_neg h]
theorem cmC_1 {xs ys : List Int} (h : pvB xs = false ∨ pvB ys = false) : cmC xs ys = 1 := by
  rw [cmC, if_neg]
  rcases h with h | h <;> rw [h] <;> simp
theorem cmV_no {xs ys : List Int} (h : cmC xs ys ≠ 0) : cmV xs ys = [] := by rw [cmV, if_neg h]
theorem cmV_yes {xs ys : List Int} (h : cmC xs ys = 0) : cmV xs ys = cmpL xs ys := by rw [cmV, if_pos h]

set_option maxHeartbeats 2000000 in
set_option maxRecDepth 100000 in
theorem compose_c (v u : Value) (xs ys : List Int) (w : World) (hv : RdI w v xs) (hu : RdI w u ys) (hp : IsP xs) (hl : xs.length = ys.length) (hN : xs.length ≤ 1000) :
    Calls Try.prog 65 #[v, u] w (MakesI w (cmpL xs ys)) := by
  have hlx := hv.len
  have hix := hv.ix
  have hiu := hu.ix
  have HP := Lib.hid hp
  have Hl := Lib.hid hl
  rw [← hl] at hiu
  clear hp hl
  go_enter Try.func65, Try.ntmps65
  go_wp2_with (at_make; refine mkI (St.refl w) rfl _ _ rfl _ _ xs.length rfl rfl (by omega) ?_; intro r w1 hS1; have hr := hS1.rdI 0 rfl; have hln := hr.len; have hir := hr.ix; simp only [List.length_replicate] at hln hir; clear hr)
  go_loopw [6, 12] (fun _ x wr => ∃ (k : Nat) (zs : List Int), k ≤ xs.length ∧ x = .int .i64 k ∧ Hid (zs.length = xs.length) ∧ Hid (∀ j, j < k → nth zs j = nth ys (pf xs j)) ∧ St w.heap.size w wr [row 2 r (iv zs)]) (fun _ x _ => xs.length - (intOf x).toNat)
  case atStart => exact ⟨0, _, by omega, rfl, by unfold Hid; simp, fun j hj => by omega, hS1⟩
  case round =>
    clear hS1
    obtain ⟨k, zs, hk, rfl, hz, hI, hS⟩ := hrel
    by_cases hlt : k < xs.length
    · have hck := (hS.oldI hv).cell k hlt
      have hpk := nth_pf HP.out hlt
      have hpl := HP.out.pf_lt hlt
      have hcu := (hS.oldI hu).cell (pf xs k) (by rw [← Hl.out]; exact hpl)
      rw [hpk] at hck
      clear hpk
      go_wp2_with (refine stoI hS 0 rfl k (by rw [hz.out]; exact hlt) rfl _ _ rfl rfl _ rfl ?_; intro w2 hS2)
      go_roundw
      case rel => exact ⟨k + 1, zs.set k (nth ys (pf xs k)), by omega, by go_num, by unfold Hid; rw [List.length_set]; exact hz.out, fun j hj => by
        rw [nth_set (by rw [hz.out]; exact hlt)]
        by_cases e : k = j
        · subst e; rw [if_pos rfl]
        · rw [if_neg e]; exact hI.out j (by omega), hS2⟩
      case measure => simp [intOf]; omega
    · obtain rfl : k = xs.length := by omega
      have he : zs = cmpL xs ys := nth_ext (by rw [cmpL_len]; exact hz.out) fun j hj => by rw [hz.out] at hj; rw [hI.out j hj, nth_cmpL hj]
      have He := Lib.hid he
      clear he
      go_wp2_with fail
      go_ret
      exact ⟨_, rfl, by rw [← He.out]; exact hS⟩
set_option maxHeartbeats 2000000 in
set_option maxRecDepth 100000 in
theorem Compose_c (v u : Value) (xs ys : List Int) (w : World) (hv : RdI w v xs) (hu : RdI w u ys) (hx : xs.length ≤ 1048576) (hy : ys.length ≤ 1048576) :
    Calls Try.prog 15 #[v, u] w (MakesLK w (cmV xs ys) (cmC xs ys)) := by
  have hlx := hv.len
  have hly := hu.len
  have HX := Lib.hid (ValidPermutation_c v xs w hv hx)
  have HY := fun W (h : RdI W u ys) => Lib.hid (ValidPermutation_c u ys W h hy)
  cases h1 : pvB xs
  · have H := Lib.hid (cmC_1 (xs := xs) (ys := ys) (.inl h1))
    have H2 := Lib.hid (cmV_no (xs := xs) (ys := ys) (by rw [H.out]; decide))
    rw [h1] at HX
    clear h1
    go_enter Try.func15, Try.ntmps15
    go_wp2_with fail
    refine HX.out.mono ?_
    rintro e w1 ⟨rfl, hS1⟩
    go_wp2_with fail
    go_ret2
    exact ⟨_, by rw [H.out]; rfl, by rw [H2.out]; exact hS1.nilI⟩
  · rw [h1] at HX
    have H1 := Lib.hid h1
    clear h1
    cases h2 : pvB ys
    · have H := Lib.hid (cmC_1 (xs := xs) (ys := ys) (.inr h2))
      have H2 := Lib.hid (cmV_no (xs := xs) (ys := ys) (by rw [H.out]; decide))
      rw [h2] at HY
      clear h2
      go_enter Try.func15, Try.ntmps15
      go_wp2_with fail
      refine HX.out.mono ?_
      rintro e w1 ⟨rfl, hS1⟩
      go_wp2_with (go_at_call 58; refine (HY _ (hS1.oldI hu)).out.mono ?_; rintro e w2 ⟨rfl, hS2'⟩; have hS2 := hS1.call0 hS2')
      go_ret2
      exact ⟨_, by rw [H.out]; rfl, by rw [H2.out]; exact hS2.nilI⟩
    · have Hp2 := Lib.hid h2
      rw [h2] at HY
      clear h2
      by_cases hl : xs.length = ys.length
      · have H := Lib.hid (cmC_0 H1.out Hp2.out hl)
        have H2 := Lib.hid (cmV_yes H.out)
        have HC := fun W (hv : RdI W v xs) (hu : RdI W u ys) => Lib.hid (compose_c v u xs ys W hv hu (pvB_t H1.out).2 hl (by have := (pvB_t H1.out).1; omega))
        have f1 : ((xs.length : Int) != (ys.length : Int)) = false := ne_f (by omega)
        clear hl
        go_enter Try.func15, Try.ntmps15
        go_wp2_with fail
        refine HX.out.mono ?_
        rintro e w1 ⟨rfl, hS1⟩
        go_wp2_with (go_at_call 58; refine (HY _ (hS1.oldI hu)).out.mono ?_; rintro e w2 ⟨rfl, hS2'⟩; have hS2 := hS1.call0 hS2')
        refine (HC _ (hS2.oldI hv) (hS2.oldI hu)).out.mono ?_
        rintro e w3 ⟨r, rfl, h3⟩
        have hS3 := hS2.trans h3
        go_wp2_with fail
        go_ret2
        exact ⟨_, by rw [H.out]; rfl, by rw [H2.out]; exact hS3⟩
      · have H := Lib.hid (cmC_2 H1.out Hp2.out hl)
        have H2 := Lib.hid (cmV_no (xs := xs) (ys := ys) (by rw [H.out]; decide))
        have f1 : ((xs.length : Int) != (ys.length : Int)) = true := ne_t (by omega)
        clear hl
        go_enter Try.func15, Try.ntmps15
        go_wp2_with fail
        refine HX.out.mono ?_
        rintro e w1 ⟨rfl, hS1⟩
        go_wp2_with (go_at_call 58; refine (HY _ (hS1.oldI hu)).out.mono ?_; rintro e w2 ⟨rfl, hS2'⟩; have hS2 := hS1.call0 hS2')
        go_ret2
        exact ⟨_, by rw [H.out]; rfl, by rw [H2.out]; exact hS2.nilI⟩
set_option maxHeartbeats 2000000 in
set_option maxRecDepth 100000 in
theorem inverse_c (v : Value) (xs : List Int) (w : World) (hv : RdI w v xs) (hp : IsP xs) (hN : xs.length ≤ 1000) :
    Calls Try.prog 77 #[v] w (MakesI w (invL xs)) := by
  have hlx := hv.len
  have hix := hv.ix
  have HP := Lib.hid hp
  have HI := Lib.hid (show invL xs = invP xs xs.length from rfl)
  clear hp
  go_enter Try.func77, Try.ntmps77
  go_wp2_with (at_make; refine mkI (St.refl w) rfl _ _ rfl _ _ xs.length rfl rfl (by omega) ?_; intro r w1 hS1; have hr := hS1.rdI 0 rfl; have hir := hr.ix; simp only [List.length_replicate] at hir; clear hr)
  go_loopw [4, 5, 11] (fun _ _ x wr => ∃ k : Nat, k ≤ xs.length ∧ x = .int .i64 k ∧ St w.heap.size w wr [row 2 r (iv (invP xs k))]) (fun _ _ x _ => xs.length - (intOf x).toNat)
  case atStart => exact ⟨0, by omega, rfl, hS1⟩
  case round =>
    clear hS1
    obtain ⟨k, hk, rfl, hS⟩ := hrel
    by_cases hlt : k < xs.length
    · have hck := (hS.oldI hv).cell k hlt
      have hpk := nth_pf HP.out hlt
      have hpl := HP.out.pf_lt hlt
      have hlk := invP_len xs k
      rw [hpk] at hck
      clear hpk
      have HlK := Lib.hid hlk
      clear hlk
      go_wp2_with (refine stoI hS 0 rfl (pf xs k) (by rw [HlK.out]; exact hpl) rfl _ _ rfl rfl _ rfl ?_; intro w2 hS2)
      go_roundw
      case rel => exact ⟨k + 1, by omega, by go_num, hS2⟩
      case measure => simp [intOf]; omega
    · obtain rfl : k = xs.length := by omega
      go_wp2_with fail
      go_ret
      exact ⟨_, rfl, by rw [HI.out]; exact hS⟩
set_option maxHeartbeats 2000000 in
set_option maxRecDepth 100000 in
theorem InvertPermutation_c (v : Value) (xs : List Int) (w : World) (hv : RdI w v xs) (hx : xs.length ≤ 1048576) (hp : pvB xs = true) :
    Calls Try.prog 22 #[v] w (MakesLK w (invL xs) 0) := by
  have HX := Lib.hid (ValidPermutation_c v xs w hv hx)
  rw [hp] at HX
  have HC := fun W (hv : RdI W v xs) => Lib.hid (inverse_c v xs W hv (pvB_t hp).2 (by have := (pvB_t hp).1; omega))
  clear hp
  go_enter Try.func22, Try.ntmps22
  go_wp2_with fail
  refine HX.out.mono ?_
  rintro e w1 ⟨rfl, hS1⟩
  go_wp2_with fail
  refine (HC _ (hS1.oldI hv)).out.mono ?_
  rintro e w2 ⟨r, rfl, h2⟩
  have hS2 := hS1.trans h2
  go_wp2_with fail
  go_ret2
  exact ⟨_, rfl, hS2⟩
set_option maxHeartbeats 1000000 in
set_option maxRecDepth 100000 in
theorem ident_c (n : Nat) (w : World) (hn : n ≤ 1048576) : Calls Try.prog 68 #[.int .i64 n] w (MakesI w (iot n)) := by
  go_enter Try.func68, Try.ntmps68
  go_wp2_with (at_make; refine mkI (St.refl w) rfl _ _ rfl _ _ n rfl rfl (by omega) ?_; intro v1 w1 hS1; have hr := hS1.rdI 0 rfl; have hln := hr.len; have hix := hr.ix; simp only [List.length_replicate] at hln hix; clear hr)
  go_loopw [4, 9] (fun _ i wr => ∃ k : Nat, k ≤ n ∧ i = .int .i64 k ∧ St w.heap.size w wr [row 2 v1 (iv (iot k ++ List.replicate (n - k) 0))]) (fun _ i _ => n - (intOf i).toNat)
  case atStart => exact ⟨0, by omega, rfl, hS1⟩
  case round =>
    obtain ⟨k, hk, rfl, hS⟩ := hrel
    by_cases hlt : k < n
    · go_wp2_with (refine stoI hS 0 rfl k (by simp [iot]; omega) rfl _ _ rfl rfl _ rfl ?_; intro w2 hS2)
      go_roundw
      case rel =>
        refine ⟨k + 1, by omega, by go_num, ?_⟩
        have e : (iot k ++ List.replicate (n - k) 0).set k (k : Int) = iot (k + 1) ++ List.replicate (n - (k + 1)) 0 := by
          rw [List.set_append_right _ _ (by rw [iot_len]; omega), iot_len, show n - k = (n - (k + 1)) + 1 by omega, List.replicate_succ]
          simp [iot, List.range_succ]
        rw [← e]; exact hS2
      case measure => simp [intOf]; omega
    · obtain rfl : k = n := by omega
      go_wp2_with fail
      go_ret
      refine ⟨_, rfl, ?_⟩
      simpa using hS
set_option maxHeartbeats 1000000 in
set_option maxRecDepth 100000 in
theorem IdentityPermutation_c (n : Nat) (w : World) (hn : n ≤ 32) : Calls Try.prog 33 #[.int .i64 n] w (MakesLK w (iot n) 0) := by
  have i1 : inB (n : Int) 0 32 = true := inB_true (by omega)
  go_enter Try.func33, Try.ntmps33
  go_wp2_with fail
  refine (within_c _ _ _ _).mono ?_
  rintro e w1 ⟨rfl, rfl⟩
  go_wp2_with fail
  refine (ident_c n w (by omega)).mono ?_
  rintro e w2 ⟨r, rfl, h2⟩
  go_wp2_with fail
  go_ret2
  exact ⟨_, rfl, h2⟩
end Go.Proofs.Ytpfgbbbjldpnnaa
