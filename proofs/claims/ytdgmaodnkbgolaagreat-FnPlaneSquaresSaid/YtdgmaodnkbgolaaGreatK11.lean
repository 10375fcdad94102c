/- The texts of this claim, run 11: Ps1 Sd Pn4 PFm Fm3 Ps2 Ml3. -/
import Derived.Test.YtdgmaodnkbgolaaGreatK1
import Derived.Test.YtdgmaodnkbgolaaGreatK4
import Derived.Test.YtdgmaodnkbgolaaGreatK5
import Derived.Test.YtdgmaodnkbgolaaGreatK6
import Derived.Test.YtdgmaodnkbgolaaGreatK7
import Derived.Test.YtdgmaodnkbgolaaGreatK8
import Derived.Test.YtdgmaodnkbgolaaGreatK9
import Derived.Test.YtdgmaodnkbgolaaGreatK10
import Derived.Deep.CutRange
import Derived.Deep.RegionHeld3
import Derived.Deep.DrawnRows
section
/- Walks: the plane of a complete set of orthogonal squares. -/
namespace Go.Proofs.YtdgmaodnkbgolaaGreat
set_option linter.unusedSimpArgs false
set_option linter.unusedVariables false
open Go.RowKit
attribute [local go_sem ↓] Go.wp_at_zero Go.wp_at_succ

theorem upF_snocL (f : Int → Bool) : ∀ k lo : Nat, upF f lo (k + 1) = upF f lo k ++ (if f ((lo + k : Nat) : Int) = true then [((lo + k : Nat) : Int)] else [])
  | 0, lo => by
    rw [upF, upF, upF]; simp
  | k + 1, lo => by
    have ih := upF_snocL f k (lo + 1)
    rw [upF, ih, upF.eq_def f lo (k + 1)]
    simp only
    rw [show lo + 1 + k = lo + (k + 1) by omega]
    split <;> simp
/-- the lines of a square, the first k points dealt out -/
def lnR (Y : List (List (List Int))) (n c k : Nat) : List (List Int) := (List.range n).map fun s => lnK Y n c s k
section
variable {Y : List (List (List Int))} {n c k s : Nat}
theorem lnR_len (Y : List (List (List Int))) (n c k : Nat) : (lnR Y n c k).length = n := by simp [lnR]
theorem lnR_at (h : s < n) : xat (lnR Y n c k) s = lnK Y n c s k := by
  rw [xat_eq (by rw [lnR_len]; exact h)]; simp [lnR]
theorem lnR_0 (Y : List (List (List Int))) (n c : Nat) : lnR Y n c 0 = List.replicate n [] := by
  refine List.eq_replicate_iff.2 ⟨lnR_len _ _ _ _, fun b hb => ?_⟩
  obtain ⟨s, _, rfl⟩ := List.mem_map.1 hb
  rfl
theorem lnK_succ (Y : List (List (List Int))) (n c s k : Nat) : lnK Y n c s (k + 1) = lnK Y n c s k ++ (if nF Y n c k = s then [(k : Int)] else []) := by
  unfold lnK
  rw [upF_snocL, Nat.zero_add, Int.toNat_natCast]
  by_cases e : nF Y n c k = s
  · rw [if_pos (beq_iff_eq.2 e), if_pos e]
  · rw [if_neg (by rw [beq_iff_eq]; exact e), if_neg e]
theorem lnR_step (h : nF Y n c k < n) : (lnR Y n c k).set (nF Y n c k) (xat (lnR Y n c k) (nF Y n c k) ++ [(k : Int)]) = lnR Y n c (k + 1) := by
  refine List.ext_getElem (by rw [List.length_set, lnR_len, lnR_len]) fun i h1 h2 => ?_
  rw [lnR_len] at h2
  rw [List.getElem_set]
  have e1 : ∀ k, (lnR Y n c k)[i]'(by rw [lnR_len]; exact h2) = lnK Y n c i k := fun k => by simp [lnR]
  rw [e1, e1, lnR_at h, lnK_succ]
  split
  · rename_i e; subst e; rfl
  · rw [List.append_nil]
theorem lnR_all (Y : List (List (List Int))) (n c : Nat) : ntU Y n c ++ lnR Y n c (n * n) = ntU Y n (c + 1) := (ntU_succ Y n c).symm
theorem lnK_len (Y : List (List (List Int))) (n c s k : Nat) : (lnK Y n c s k).length ≤ k := len_upF_le _ _ _
end
theorem St.nilrows {B : Nat} {w0 w : World} {L : List Ent} (h : St B w0 w L) : ∀ n : Nat, St B w0 w (L ++ rowsI (nils n) (List.replicate n []))
  | 0 => by
    have : rowsI (nils 0) (List.replicate 0 []) = [] := rfl
    rw [this, List.append_nil]; exact h
  | n + 1 => by
    have ih := (h.newnil 2).nilrows n
    have : rowsI (nils (n + 1)) (List.replicate (n + 1) []) = row 2 (.slice none 0 0) [] :: rowsI (nils n) (List.replicate n []) := rfl
    rw [this]
    rwa [List.append_assoc] at ih
theorem rowsI_appP : ∀ {us ws : List Value} {A B : List (List Int)}, us.length = A.length → rowsI (us ++ ws) (A ++ B) = rowsI us A ++ rowsI ws B := by
  intro us ws A B h
  unfold rowsI
  exact List.zipWith_append h
set_option maxHeartbeats 32000000 in
set_option maxRecDepth 100000 in
theorem PlaneOfMols_yes (n : Nat) (v : Value) (vs : List Value) (uss : List (List Value)) (X : List (List (List Int))) (w : World) (hv : RIII w v vs uss X) (hm : Mols X) (hn : (x3at X 0).length = n) (hl : X.length + 1 = n) (h5 : n ≤ 5) :
    Calls Tryz.prog 7 #[v] w (MakesD w (n * n : Nat) (ntA (ntY n X) n) 0) := by
  obtain ⟨a, c, hsh⟩ := hv.1.sl.sh
  rw [hv.2.1] at hsh
  subst hsh
  have hnet := hm.net hn hl
  have hp := hm.pos
  have hS0 := (St.refl w).newboxF 28 #[.int .i64 0, .slice none 0 0]
  have hsml : Sml X := fun k hk x hx => by
    rw [(hm.lat k hk).len x hx, hm.len hk, hn]; omega
  have KV := Lib.hid (ValidMols_c _ vs uss X _ (hS0.oldIII hv) hsml)
  rw [molB_yes hm] at KV
  have c0 := hv.cell 0 hp
  have x0 := hv.ixe 0 0 rfl hp
  have hr0 := Lib.hid (fun W (h : RIII W (.slice a X.length c) vs uss X) => h.row 0 hp)
  have KZ := Lib.hid (fun W (h : RIII W (.slice a X.length c) vs uss X) => szII_c _ _ _ W (h.row 0 hp))
  rw [hn] at KZ
  have KX := Lib.hid (fun W (h : RIII W (.slice a X.length c) vs uss X) => szIII_c _ _ _ _ W h)
  have Hv := Lib.hid hv
  have HN := Lib.hid hnet
  have hXl : (X.length : Int) = (n : Int) - 1 := by omega
  rw [hXl] at KX
  have hnn : n * n ≤ 5 * 5 := Nat.mul_le_mul h5 h5
  obtain ⟨N, hN⟩ : ∃ N, n * n = N := ⟨_, rfl⟩
  rw [hN] at hnn ⊢
  have w1 : IntKind.i64.wrap ((n : Int) * (n : Int)) = (N : Int) := by
    rw [show (n : Int) * (n : Int) = ((n * n : Nat) : Int) from rfl, hN]; exact IntWalk.i64_in _ (by omega)
  have HNN := Lib.hid hN
  have w2 : IntKind.i64.wrap ((n : Int) - 1) = (n : Int) - 1 := IntWalk.i64_in _ (by omega)
  have f1 : ¬ (32 : Int) < (N : Int) := by omega
  have f2 : (((n : Int) - 1) != ((n : Int) - 1)) = false := ne_f rfl
  have hcf1 := callFunc_go Tryz.func33 (by kernel_rfl) (by kernel_rfl)
  have hcf2 := callFunc_go Tryz.func34 (by kernel_rfl) (by kernel_rfl)
  have KR := Lib.hid (fun W => filledSquare_c 33 #[] (fun x _ => (x : Int)) n W (by omega) hcf1 (fun x y W' hW' hx hy => by
    go_enter Tryz.func33, Tryz.ntmps33
    go_wp2_with fail
    go_ret
    exact ⟨rfl, St.refl _⟩))
  have KC := Lib.hid (fun W => filledSquare_c 34 #[] (fun _ y => (y : Int)) n W (by omega) hcf2 (fun x y W' hW' hx hy => by
    go_enter Tryz.func34, Tryz.ntmps34
    go_wp2_with fail
    go_ret
    exact ⟨rfl, St.refl _⟩))
  clear hv hm hn hnet hsml hcf1 hcf2 hXl hN
  go_enter Tryz.func7, Tryz.ntmps7
  go_wp2_with fail
  refine KV.out.mono ?_
  clear KV c0
  rintro e w3 ⟨rfl, h3⟩
  have hS3 := hS0.call0 h3
  have c0 := (hS3.oldIII Hv.out).cell 0 hp
  clear hS0 h3
  go_wp2_with fail
  refine (KZ.out _ (hS3.oldIII Hv.out)).mono ?_
  rintro e w4 ⟨rfl, hw⟩
  subst hw
  go_wp2_with fail
  refine (KX.out _ (hS3.oldIII Hv.out)).mono ?_
  rintro e w5 ⟨rfl, hw⟩
  subst hw
  go_wp2_with fail
  refine (KR.out _).mono ?_
  clear KZ KX KR c0 x0 hr0
  rintro e w6 ⟨vr, ur, rfl, hlr, h6⟩
  rw [sqF_len] at hlr
  obtain ⟨ra, rc, hsh⟩ := (h6.rd 0 (e := 48) (v := vr) (us := ur) rfl).sl.sh
  rw [hlr] at hsh
  subst hsh
  have Hlr := Lib.hid hlr
  clear hlr
  have hS6 := hS3.call h6
  clear hS3 h6
  go_wp2_with fail
  refine (KC.out _).mono ?_
  clear KC
  rintro e w7 ⟨vc, uc, rfl, hlc, h7⟩
  rw [sqF_len] at hlc
  obtain ⟨ca, cc, hsh⟩ := (h7.rd 0 (e := 48) (v := vc) (us := uc) rfl).sl.sh
  rw [hlc] at hsh
  subst hsh
  have Hlc := Lib.hid hlc
  clear hlc
  have hS7 := hS6.call h7
  clear hS6 h7
  have hS8 := (hS7.new 26 #[.slice ra n rc, .slice ca n cc] (by simp [maxLen])).new 24 #[.slice (some ⟨w7.heap.size, 0, none⟩) 2 2, .slice a X.length c] (by simp [maxLen])
  simp only [World.size_alloc] at hS8
  have hrd1 := (hS8.sub (L' := [row 26 (.slice (some ⟨w7.heap.size, 0, none⟩) 2 2) [.slice ra n rc, .slice ca n cc]]) ((List.sublist_append_right _ _).trans (List.sublist_append_left _ _))).rd 0 rfl
  have hrd2 := (hS8.sub (L' := [row 24 (.slice (some ⟨w7.heap.size + 1, 0, none⟩) 2 2) [.slice (some ⟨w7.heap.size, 0, none⟩) 2 2, .slice a X.length c]]) (List.sublist_append_right _ _)).rd 0 rfl
  have hRv := hS8.oldIII Hv.out
  have hone : ∀ u ∈ vs, u.oneCell' = true := fun u hu => by
    obtain ⟨j, hj, rfl⟩ := List.getElem_of_mem hu
    rw [← vat_eq hj]
    exact (Hv.out.row j (by rw [← Hv.out.2.1]; exact hj)).1.sl.one
  have KT := Lib.hid (ConcatIII_c (.slice (some ⟨w7.heap.size + 1, 0, none⟩) 2 2) [.slice (some ⟨w7.heap.size, 0, none⟩) 2 2, .slice a X.length c] [[.slice ra n rc, .slice ca n cc], vs] _ ⟨hrd2, rfl, fun j hj => by
    match j, hj with
    | 0, _ => exact hrd1
    | 1, _ => exact hRv.1⟩ (fun us hus u hu => by
    rcases List.mem_cons.1 hus with rfl | hus
    · rcases List.mem_cons.1 hu with rfl | hu
      · rfl
      · rw [List.mem_singleton.1 hu]; rfl
    · rw [List.mem_singleton.1 hus] at hu
      exact hone u hu) (by simp [totV, Hv.out.2.1]; omega))
  clear hrd1 hrd2 hRv hone
  go_wp2_with fail
  refine KT.out.mono ?_
  clear KT
  rintro e w9 ⟨vY, rfl, h9⟩
  rw [show [[Value.slice ra n rc, Value.slice ca n cc], vs].flatten = [Value.slice ra n rc, Value.slice ca n cc] ++ vs by simp] at h9
  have hS9 := hS8.call h9
  clear hS8 h9
  obtain ⟨F, hF⟩ : ∃ F : List Ent, F = row 26 vY ([.slice ra n rc, .slice ca n cc] ++ vs) :: (own2 (.slice ra n rc) ur (rqS n) ++ own2 (.slice ca n cc) uc (cqS n)) := ⟨_, rfl⟩
  have hS10 : St w.heap.size w w9 (box 28 w.heap.size [.int .i64 0, .slice none 0 0] :: (own2 (.slice none 0 0) [] (ntU (ntY n X) n 0) ++ F)) := by
    rw [hF]
    have h10 := (hS9.newnil 48).sub ((((List.sublist_append_left _ _).trans (List.sublist_append_left _ _)).append (List.Sublist.refl _)).append (List.Sublist.refl _))
    refine h10.perm ?_
    show List.Perm _ (box 28 w.heap.size [.int .i64 0, .slice none 0 0] :: ([row 48 (.slice none 0 0) []] ++ (row 26 vY ([.slice ra n rc, .slice ca n cc] ++ vs) :: (own2 (.slice ra n rc) ur (sqF n fun x _ => (x : Int)) ++ own2 (.slice ca n cc) uc (sqF n fun _ y => (y : Int))))))
    exact (by (try simp only [own2, List.cons_append, List.nil_append, List.append_nil]); classical exact List.perm_iff_count.2 (fun a => by simp only [List.cons_append, List.nil_append, List.append_nil, List.count_append, List.count_cons, List.count_nil] <;> omega))
  have hsvl : ([.slice ra n rc, .slice ca n cc] ++ vs : List Value).length = n + 1 := by simp [Hv.out.2.1]; omega
  have hYl : (ntY n X).length = n + 1 := HN.out.len
  have HF : Hid (∀ W L, St w.heap.size w W L → F.Sublist L → RIII W vY ([.slice ra n rc, .slice ca n cc] ++ vs) ([ur, uc] ++ uss) (ntY n X)) := Lib.hid (fun W L h hs => by
    have h2 := h.sub hs
    rw [hF] at h2
    have hR := h.oldIII Hv.out
    refine ⟨h2.rd 0 rfl, by rw [hsvl, hYl], fun k hk => ?_⟩
    match k, hk with
    | 0, _ => exact (h2.sub (L' := own2 (.slice ra n rc) ur (rqS n)) ((List.sublist_append_left _ _).trans (List.sublist_cons_self _ _))).rii (by rw [Hlr.out]; exact (sqF_len _ _).symm)
    | 1, _ => exact (h2.sub (L' := own2 (.slice ca n cc) uc (cqS n)) ((List.sublist_append_right _ _).trans (List.sublist_cons_self _ _))).rii (by rw [Hlc.out]; exact (sqF_len _ _).symm)
    | k + 2, hk => exact hR.row k (by rw [hYl] at hk; omega))
  clear hS9 hF
  obtain ⟨ya, yc, hsh⟩ := (HF.out _ _ hS10 ((List.sublist_append_right _ _).trans (List.sublist_cons_self _ _))).1.sl.sh
  rw [hsvl] at hsh
  subst hsh
  have HYl := Lib.hid hYl
  have hlnY := (HF.out _ _ hS10 ((List.sublist_append_right _ _).trans (List.sublist_cons_self _ _))).len
  have hixY := (HF.out _ _ hS10 ((List.sublist_append_right _ _).trans (List.sublist_cons_self _ _))).ixe
  rw [hYl] at hlnY hixY
  clear hsvl hYl
  generalize ntY n X = Y at *
  generalize [.slice ra n rc, .slice ca n cc] ++ vs = Vs at *
  generalize [ur, uc] ++ uss = Us at *
  go_wp2_with fail
  go_loopw [45, 7, 9, 10, 11, 12, 13, 14] (fun ci o _ _ _ _ _ _ wr => ∃ (c : Nat) (ub : List Value), ci = .int .i64 c ∧ c ≤ n + 1 ∧ Hid (ub.length = (ntU Y n c).length) ∧ St w.heap.size w wr (box 28 w.heap.size [.int .i64 0, .slice none 0 0] :: (own2 o ub (ntU Y n c) ++ F))) (fun ci _ _ _ _ _ _ _ _ => n + 1 - (intOf ci).toNat)
  case atStart => exact ⟨0, [], rfl, by omega, Lib.hid rfl, hS10⟩
  case round =>
    clear hS10
    obtain ⟨k, ub, rfl, hk, hub, hS⟩ := hrel
    have hFs : F.Sublist (box 28 w.heap.size [.int .i64 0, .slice none 0 0] :: (own2 u7 ub (ntU Y n k) ++ F)) := (List.sublist_append_right _ _).trans (List.sublist_cons_self _ _)
    by_cases hkn : k < n + 1
    · have hki : (k : Int) < ((n + 1 : Nat) : Int) := by omega
      have xk := hixY (k : Int) k rfl hkn
      have hR := HF.out _ _ hS hFs
      have ck := hR.cell k (by rw [HYl.out]; exact hkn)
      have hsq := HN.out.sq k hkn
      have hlk := (hR.row k (by rw [HYl.out]; exact hkn)).len
      have hixk := (hR.row k (by rw [HYl.out]; exact hkn)).ixe
      rw [hsq.len] at hlk hixk
      have Hsq := Lib.hid hsq
      clear hR hsq
      go_wp2_with (at_make; refine mkII hS rfl _ _ rfl .i64 .i64 n rfl rfl (by omega) ?_; intro vl wl hSl)
      have hS2 := hSl.nilrows n
      obtain ⟨L2, hL2⟩ : ∃ L2 : List Ent, L2 = box 28 w.heap.size [.int .i64 0, .slice none 0 0] :: (own2 u7 ub (ntU Y n k) ++ F) := ⟨_, rfl⟩
      rw [← hL2] at hS2 hFs
      have hS3 : St w.heap.size w wl (own2 vl (nils n) (lnR Y n k (n * 0)) ++ L2) := by
        rw [Nat.mul_zero, lnR_0, own2, List.cons_append]
        refine hS2.perm ?_
        rw [List.append_assoc]
        exact List.perm_append_comm
      have Hul0 : Hid ((nils n).length = n) := Lib.hid (by simp [nils])
      have HL2 := Lib.hid hL2
      have HFs := Lib.hid hFs
      have HY2 := Lib.hid (fun W ul t (h : St w.heap.size w W (own2 vl ul (lnR Y n k t) ++ L2)) => (HF.out W _ h (hFs.trans (List.sublist_append_right _ _))).row k (by rw [HYl.out]; exact hkn))
      clear hS hSl hS2 hL2 hFs ck xk hlnY hixY
      go_loopw [53, 11, 12, 13, 14] (fun xi _ _ _ _ wr => ∃ (x : Nat) (ul : List Value), xi = .int .i64 x ∧ x ≤ n ∧ Hid (ul.length = n) ∧ St w.heap.size w wr (own2 vl ul (lnR Y n k (n * x)) ++ L2)) (fun xi _ _ _ _ _ => n - (intOf xi).toNat)
      case atStart => exact ⟨0, nils n, rfl, by omega, Hul0, hS3⟩
      case round =>
        clear hS3 Hul0
        obtain ⟨x, ul, rfl, hx, hul, hS⟩ := hrel
        by_cases hxn : x < n
        · have hxi : (x : Int) < (n : Int) := by omega
          have hR := HY2.out _ _ _ hS
          have xx := hixk (x : Int) x rfl hxn
          have cx := hR.cell x (by rw [Hsq.out.len]; exact hxn)
          have hlx := (hR.row x (by rw [Hsq.out.len]; exact hxn)).len
          have hixx := (hR.row x (by rw [Hsq.out.len]; exact hxn)).ixe
          rw [Hsq.out.row x hxn] at hlx hixx
          have hMl : n * x + n ≤ n * n := by rw [← Nat.mul_succ]; exact Nat.mul_le_mul_left _ (by omega)
          have hMx : ∀ y, y < n → nF Y n k (n * x + y) = af (x3at Y k) x y := fun y hyn => by
            unfold nF
            rw [Nat.mul_add_div (by omega), Nat.div_eq_of_lt hyn, Nat.add_zero, Nat.mul_add_mod, Nat.mod_eq_of_lt hyn]
          obtain ⟨M, hM⟩ : ∃ M, n * x = M := ⟨_, rfl⟩
          rw [hM] at hS hMl hMx
          rw [HNN.out] at hMl
          have wM : IntKind.i64.wrap ((n : Int) * (x : Int)) = (M : Int) := by
            rw [show (n : Int) * (x : Int) = ((n * x : Nat) : Int) from rfl, hM]; exact IntWalk.i64_in _ (by omega)
          have HM := Lib.hid (show n * (x + 1) = M + n by rw [Nat.mul_succ, hM])
          have HMx := Lib.hid hMx
          have hS' : St w.heap.size w wr (own2 vl ul (lnR Y n k (M + 0)) ++ L2) := hS
          clear hR hS hM hMx
          go_wp2_with fail
          go_loopw [60, 13, 14] (fun yi _ _ wr => ∃ (y : Nat) (ul : List Value), yi = .int .i64 y ∧ y ≤ n ∧ Hid (ul.length = n) ∧ St w.heap.size w wr (own2 vl ul (lnR Y n k (M + y)) ++ L2)) (fun yi _ _ _ => n - (intOf yi).toNat)
          case atStart => exact ⟨0, ul, rfl, by omega, hul, hS'⟩
          case round =>
            clear hS' hul cx
            obtain ⟨y, ul, rfl, hy, hul, hS⟩ := hrel
            by_cases hyn : y < n
            · have hyi : (y : Int) < (n : Int) := by omega
              have hR := (HY2.out _ _ _ hS).row x (by rw [Hsq.out.len]; exact hxn)
              have xy := hixx (y : Int) y rfl hyn
              have cy := hR.cell y (by rw [Hsq.out.row x hxn]; exact hyn)
              have haf := af_eq Hsq.out hxn hyn
              rw [show nth (xat (x3at Y k) x) y = at2 (x3at Y k) x y from rfl, haf.1] at cy
              have hkk := HMx.out y hyn
              have hst := lnR_step (Y := Y) (n := n) (c := k) (k := M + y) (by rw [hkk]; exact haf.2)
              rw [hkk] at hst
              have hlen := lnK_len Y n k (af (x3at Y k) x y) (M + y)
              have hs := haf.2
              rw [lnR_at hs] at hst
              have hat := own2_atP (v := vl) (us := ul) (L2 := L2) (A := lnR Y n k (M + y)) (j := af (x3at Y k) x y) (by rw [lnR_len]; exact hul.out) (by rw [lnR_len]; exact hs)
              rw [lnR_at hs] at hat
              have Hput := Lib.hid (fun u r => own2_putP (v := vl) (us := ul) (L2 := L2) (A := lnR Y n k (M + y)) (j := af (x3at Y k) x y) (by rw [lnR_len]; exact hul.out) (by rw [lnR_len]; exact hs) u r)
              have hrl := (hS.sub (List.sublist_append_left _ _)).rd 0 (e := 48) (v := vl) (us := ul) rfl
              have hix6 := run_ix_sl (P := Tryz.prog) hrl.sl 26 Tryz.und_iss Tryz.size_is
              rw [hul.out] at hix6
              have c6 : wr.cell? (el vl (af (x3at Y k) x y)) = some (vat ul (af (x3at Y k) x y)) := hrl.cell (by rw [hul.out]; exact hs)
              have hst2 : Hid ((lnR Y n k (M + y)).set (af (x3at Y k) x y) (lnK Y n k (af (x3at Y k) x y) (M + y) ++ [(M : Int) + (y : Int)]) = lnR Y n k (M + (y + 1))) := Lib.hid hst
              clear hR hst haf hkk hrl
              generalize af (x3at Y k) x y = s at *
              have x6 := fun W => hix6 .i64 (s : Int) (by omega) (by omega) W
              simp only [Int.toNat_natCast] at x6
              have wA : IntKind.i64.wrap ((M : Int) + (y : Int)) = (M : Int) + (y : Int) := IntWalk.i64_in _ (by omega)
              have Hlen := Lib.hid (show (lnK Y n k s (M + y)).length < 4294967296 by omega)
              have Hulx := Lib.hid hul.out
              generalize lnK Y n k s (M + y) = Q at *
              generalize lnR Y n k (M + y) = R at *
              clear hix6 hlen hul
              go_wp2_with (first
                | (refine stoII hS7 0 rfl s (by rw [Hulx.out]; exact hs) rfl _ _ rfl rfl v7 s7.cells s7.one rfl ?_; intro w8 hS8; rw [Hput.out] at hS8)
                | (at_builtin; refine appI hS (s + 1) hat Hlen.out rfl _ _ rfl rfl _ rfl ?_; intro v7 w7 hS7; have s7 := (hS7.rdI (s + 1) (List.getElem?_set_self (List.getElem?_eq_some_iff.1 hat).1)).sl))
              rw [hst2.out] at hS8
              go_roundw
              case rel => exact ⟨y + 1, _, by go_num, by omega, Lib.hid (by rw [List.length_set]; exact Hulx.out), hS8⟩
              case measure => simp [intOf]; omega
            · obtain rfl : y = n := by omega
              rw [← HM.out] at hS
              go_wp2_with fail
              go_roundw
              case rel => exact ⟨x + 1, ul, by go_num, by omega, hul, hS⟩
              case measure => simp [intOf]; omega
        · obtain rfl : n = x := by omega
          rw [HNN.out] at hS
          have hSR := hS.sub (L' := own2 vl ul (lnR Y n k N)) (List.sublist_append_left _ _)
          have hrR := hSR.rii (by rw [lnR_len]; exact hul.out)
          have hone : ∀ u ∈ ul, u.oneCell' = true := fun u hu => by
            obtain ⟨j, hj, rfl⟩ := List.getElem_of_mem hu
            rw [← vat_eq hj]
            exact (hrR.row j (by rw [lnR_len, ← hul.out]; exact hj)).sl.one
          have Hone := Lib.hid hone
          have HrR := Lib.hid hrR.1
          have hubl : ub.length + ul.length ≤ 1000 := by
            rw [hub.out, hul.out, ntU_len]
            have : k * n ≤ 5 * 5 := Nat.mul_le_mul (by omega) h5
            omega
          have HN2 := Lib.hid (show ub.length + ul.length ≤ 4294967296 by omega)
          rw [HL2.out] at hS
          have hS5 : St w.heap.size w wr (own2 u7 ub (ntU Y n k) ++ (own2 vl ul (lnR Y n k N) ++ (box 28 w.heap.size [.int .i64 0, .slice none 0 0] :: F))) := hS.perm (by (try simp only [own2, List.cons_append, List.nil_append, List.append_nil]); classical exact List.perm_iff_count.2 (fun a => by simp only [List.cons_append, List.nil_append, List.append_nil, List.count_append, List.count_cons, List.count_nil] <;> omega))
          clear hS hSR hrR hone hubl
          go_wp2_with (at_builtin; refine appsII2 hS5 0 rfl vl ul HrR.out Hone.out HN2.out rfl _ _ rfl rfl rfl ?_; intro v6 w6 hS6)
          have hS7 : St w.heap.size w w6 (box 28 w.heap.size [.int .i64 0, .slice none 0 0] :: (own2 v6 (ub ++ ul) (ntU Y n (k + 1)) ++ F)) := by
            have h7 : St w.heap.size w w6 (row 48 v6 (ub ++ ul) :: (rowsI ub (ntU Y n k) ++ (row 48 vl ul :: (rowsI ul (lnR Y n k N) ++ (box 28 w.heap.size [.int .i64 0, .slice none 0 0] :: F))))) := hS6
            have h8 := h7.perm (L' := row 48 vl ul :: (box 28 w.heap.size [.int .i64 0, .slice none 0 0] :: (row 48 v6 (ub ++ ul) :: (rowsI ub (ntU Y n k) ++ rowsI ul (lnR Y n k N)) ++ F))) (by (try simp only [own2, List.cons_append, List.nil_append, List.append_nil]); classical exact List.perm_iff_count.2 (fun a => by simp only [List.cons_append, List.nil_append, List.append_nil, List.count_append, List.count_cons, List.count_nil] <;> omega))
            have h9 := h8.sub (List.sublist_cons_self _ _)
            rw [← rowsI_appP hub.out, ← HNN.out, lnR_all] at h9
            exact h9
          go_roundw
          case rel => exact ⟨k + 1, ub ++ ul, by go_num, by omega, Lib.hid (by rw [List.length_append, hub.out, hul.out, ntU_len, ntU_len, Nat.succ_mul]), hS7⟩
          case measure => simp [intOf]; omega
    · obtain rfl : k = n + 1 := by omega
      have rb := (hS.sub (L' := own2 u7 ub (ntU Y n (n + 1))) ((List.sublist_append_left _ _).trans (List.sublist_cons_self _ _))).rii hub.out
      have KS := Lib.hid (sorted_c (N : Int) u7 ub (ntU Y n (n + 1)) wr rb (by
        rw [ntU_len]
        have : (n + 1) * n ≤ 6 * 5 := Nat.mul_le_mul (by omega) h5
        omega) (fun xs hx => by
        obtain ⟨c, s, _, _, rfl⟩ := ntU_mem.1 hx
        have := lnK_len Y n c s (n * n)
        rw [show lnN Y n c s = lnK Y n c s (n * n) from rfl]
        have h2 := HNN.out
        omega))
      rw [show srtL (ntU Y n (n + 1)) = ntA Y n from rfl] at KS
      have hB := hS.sub (L' := [box 28 w.heap.size [.int .i64 0, .slice none 0 0]]) ((List.nil_sublist _).cons_cons _)
      clear hS rb hFs
      generalize ntA Y n = Z at *
      go_wp2_with fail
      refine KS.out.mono ?_
      clear KS
      rintro e w20 ⟨v3, us3, rfl, hl3, h3⟩
      obtain ⟨a3, c3, hv3⟩ := (h3.rd 0 (e := 48) (v := v3) (us := us3) rfl).sl.sh
      subst hv3
      have hB2 := hB.call h3
      have e0 := hB2.bcell 0 rfl 0 rfl
      have e1 := hB2.bcell 0 rfl 1 rfl
      have f0 := hB2.bfree 0 rfl
      have h6 := (hB2.bstore 0 rfl 0 (.int .i64 N)).bstore 0 rfl 1 (.slice a3 us3.length c3)
      have d0 := h6.bcell 0 rfl 0 rfl
      have d1 := h6.bcell 0 rfl 1 rfl
      have Hl3 := Lib.hid hl3
      clear hB hB2 h3 hl3
      unfold dv
      go_wp2_with fail
      refine bodyPost_ret (v := .tuple #[.agg #[.int .i64 N, .slice a3 us3.length c3], .int .i64 0]) (by simp [results, Tryz.results7, go_sem, d0, d1]) rfl ?_
      exact ⟨_, us3, rfl, Hl3.out, h6.sub (List.sublist_cons_self _ _)⟩
/-- no plane, and no blocks -/
def PlnNo (w : World) (e : Ending) (w' : World) : Prop := ∃ c : Int, c ≠ 0 ∧ e = .returned (.tuple #[dv 0 (.slice none 0 0), .int .i64 c]) ∧ St w.heap.size w w' []
set_option maxHeartbeats 8000000 in
set_option maxRecDepth 100000 in
theorem PlaneOfMols_no (v : Value) (vs : List Value) (uss : List (List Value)) (X : List (List (List Int))) (w : World) (hv : RIII w v vs uss X) (hs : Sml X) (hno : ¬ (Mols X ∧ (x3at X 0).length ≤ 5 ∧ X.length + 1 = (x3at X 0).length)) :
    Calls Tryz.prog 7 #[v] w (PlnNo w) := by
  have hS0 := (St.refl w).newboxF 28 #[.int .i64 0, .slice none 0 0]
  have KV := Lib.hid (ValidMols_c _ vs uss X _ (hS0.oldIII hv) hs)
  have Hv := Lib.hid hv
  by_cases hm : Mols X
  · rw [molB_yes hm] at KV
    have hp := hm.pos
    have h10 := (hm.lat 0 (by omega)).le
    have c0 := hv.cell 0 hp
    have x0 := hv.ixe 0 0 rfl hp
    have KZ := Lib.hid (fun W (h : RIII W v vs uss X) => szII_c _ _ _ W (h.row 0 hp))
    have KX := Lib.hid (fun W (h : RIII W v vs uss X) => szIII_c _ _ _ _ W h)
    have hXl := hm.le
    have hno2 : ¬ ((x3at X 0).length ≤ 5 ∧ X.length + 1 = (x3at X 0).length) := fun q => hno ⟨hm, q⟩
    generalize (x3at X 0).length = n at *
    obtain ⟨N, hN⟩ : ∃ N, n * n = N := ⟨_, rfl⟩
    have hN6 : n ≤ 5 ∨ 36 ≤ N := by
      by_cases h : n ≤ 5
      · exact .inl h
      · right
        rw [← hN]
        exact Nat.mul_le_mul (show 6 ≤ n by omega) (show 6 ≤ n by omega)
    have hN5 : n ≤ 5 → N ≤ 25 := fun h => by rw [← hN]; exact Nat.mul_le_mul h h
    have hN10 : N ≤ 100 := by rw [← hN]; exact Nat.mul_le_mul h10 h10
    have w1 : IntKind.i64.wrap ((n : Int) * (n : Int)) = (N : Int) := by
      rw [show (n : Int) * (n : Int) = ((n * n : Nat) : Int) from rfl, hN]; exact IntWalk.i64_in _ (by omega)
    have w2 : IntKind.i64.wrap ((n : Int) - 1) = (n : Int) - 1 := IntWalk.i64_in _ (by omega)
    clear hN hno hv hs hm
    go_enter Tryz.func7, Tryz.ntmps7
    go_wp2_with fail
    refine KV.out.mono ?_
    clear KV c0
    rintro e w3 ⟨rfl, h3⟩
    have hS3 := hS0.call0 h3
    have c0 := (hS3.oldIII Hv.out).cell 0 hp
    clear hS0 h3
    go_wp2_with fail
    refine (KZ.out _ (hS3.oldIII Hv.out)).mono ?_
    rintro e w4 ⟨rfl, hw⟩
    subst hw
    have b0 := hS3.bcell 0 rfl 0 rfl
    have b1 := hS3.bcell 0 rfl 1 rfl
    have f0 := hS3.bfree 0 rfl
    have h6 := (hS3.bstore 0 rfl 0 (.int .i64 0)).bstore 0 rfl 1 (.slice none 0 0)
    have d0 := h6.bcell 0 rfl 0 rfl
    have d1 := h6.bcell 0 rfl 1 rfl
    by_cases h32 : 32 < N
    · have f1 : (32 : Int) < (N : Int) := by omega
      go_wp2_with fail
      refine bodyPost_ret (v := .tuple #[.agg #[.int .i64 0, .slice none 0 0], .int .i64 2]) (by simp [results, Tryz.results7, go_sem, d0, d1, b0, b1]) rfl ?_
      first | exact ⟨2, by decide, rfl, h6.out⟩ | exact ⟨2, by decide, rfl, hS3.out⟩
    · have f1 : ¬ (32 : Int) < (N : Int) := by omega
      have hn5 : n ≤ 5 := by omega
      have f2 : ((X.length : Int) != ((n : Int) - 1)) = true := ne_t (by
        intro q
        exact hno2 ⟨hn5, by omega⟩)
      clear hN6 hN5 hno2
      go_wp2_with fail
      refine (KX.out _ (hS3.oldIII Hv.out)).mono ?_
      rintro e w5 ⟨rfl, hw⟩
      subst hw
      go_wp2_with fail
      refine bodyPost_ret (v := .tuple #[.agg #[.int .i64 0, .slice none 0 0], .int .i64 6]) (by simp [results, Tryz.results7, go_sem, d0, d1, b0, b1]) rfl ?_
      first | exact ⟨6, by decide, rfl, h6.out⟩ | exact ⟨6, by decide, rfl, hS3.out⟩
  · rw [molB_no hm] at KV
    clear hno hm hv hs
    go_enter Tryz.func7, Tryz.ntmps7
    go_wp2_with fail
    refine KV.out.mono ?_
    clear KV
    rintro e w3 ⟨rfl, h3⟩
    have hS3 := hS0.call0 h3
    have b0 := hS3.bcell 0 rfl 0 rfl
    have b1 := hS3.bcell 0 rfl 1 rfl
    have f0 := hS3.bfree 0 rfl
    have h6 := (hS3.bstore 0 rfl 0 (.int .i64 0)).bstore 0 rfl 1 (.slice none 0 0)
    have d0 := h6.bcell 0 rfl 0 rfl
    have d1 := h6.bcell 0 rfl 1 rfl
    clear hS0 h3
    go_wp2_with fail
    refine bodyPost_ret (v := .tuple #[.agg #[.int .i64 0, .slice none 0 0], .int .i64 1]) (by simp [results, Tryz.results7, go_sem, d0, d1, b0, b1]) rfl ?_
    first | exact ⟨1, by decide, rfl, h6.out⟩ | exact ⟨1, by decide, rfl, hS3.out⟩
end Go.Proofs.YtdgmaodnkbgolaaGreat
end

section
/- Walk: whether two designs are the same, of the program. -/
namespace Go.Proofs.YtdgmaodnkbgolaaGreat
set_option linter.unusedSimpArgs false
set_option linter.unusedVariables false
open Go.RowKit
attribute [local go_sem ↓] Go.wp_at_zero Go.wp_at_succ

theorem SameDesignI_c (P : Int) (va vb : Value) (us ws : List Value) (A B : List (List Int)) (w : World) (ha : RII w va us A) (hb : RII w vb ws B) :
    Calls Tryz.prog 14 #[dv P va, dv P vb] w (GivesB w (decide (A = B))) := by
  obtain ⟨a, c, hsh⟩ := ha.1.sl.sh
  rw [ha.2.1] at hsh
  subst hsh
  obtain ⟨a', c', hsh⟩ := hb.1.sl.sh
  rw [hb.2.1] at hsh
  subst hsh
  have hS0 := ((St.refl w).newboxF 28 #[.int .i64 P, .slice a A.length c]).newboxF 28 #[.int .i64 P, .slice a' B.length c']
  simp only [World.size_alloc] at hS0
  have b0 := hS0.bcell 1 rfl 0 rfl
  have b1 := hS0.bcell 1 rfl 1 rfl
  have c0 := hS0.bcell 0 rfl 0 rfl
  have c1 := hS0.bcell 0 rfl 1 rfl
  have K := Lib.hid (areSame_c _ _ _ _ A B _ (hS0.oldII ha) (hS0.oldII hb))
  have f1 : ((P : Int) == P) = true := eq_t rfl
  generalize decide (A = B) = z at *
  unfold dv
  go_enter Tryz.func14, Tryz.ntmps14
  go_wp2_with (go_at_call 53; refine K.out.mono ?_; rintro e2 w2 ⟨rfl, h2⟩; have hS2 := hS0.call0 h2)
  go_ret
  exact ⟨rfl, hS2.out⟩
end Go.Proofs.YtdgmaodnkbgolaaGreat
end

section
/- Walks: orders of affine and of projective planes, parallel classes, completed planes, planes without a line, of the program. -/
namespace Go.Proofs.YtdgmaodnkbgolaaGreat
set_option linter.unusedSimpArgs false
set_option linter.unusedVariables false
open Go.RowKit
attribute [local go_sem ↓] Go.wp_at_zero Go.wp_at_succ

theorem AffineOrder_c (P : Nat) (v : Value) (us : List Value) (A : List (List Int)) (w : World) (hv : RII w v us A) (hok : dOk P A = true) :
    Calls Tryz.prog 8 #[dv P v] w (GivesI w (ordP afV afK P A)) := by
  obtain ⟨a, c, hsh⟩ := hv.1.sl.sh
  rw [hv.2.1] at hsh
  subst hsh
  have hS0 := (St.refl w).newboxF 28 #[.int .i64 P, .slice a A.length c]
  have b0 := hS0.bcell 0 rfl 0 rfl
  have b1 := hS0.bcell 0 rfl 1 rfl
  have hcf1 : ∀ (args : Array Value) (W : World), (callFunc 38 args).run Tryz.prog W = .ok (.enter 38 args) W :=
    fun args W => callFunc_go (P := Tryz.prog) Tryz.func38 (by kernel_rfl) (by kernel_rfl) args W
  have hcf2 : ∀ (args : Array Value) (W : World), (callFunc 39 args).run Tryz.prog W = .ok (.enter 39 args) W :=
    fun args W => callFunc_go (P := Tryz.prog) Tryz.func39 (by kernel_rfl) (by kernel_rfl) args W
  have K := Lib.hid (planeOrder_c 38 39 afV afK P (.slice a A.length c) us A _ (hS0.oldII hv) hok (by decide) hcf1 hcf2 (fun n W n2 n6 => by
      have hb : n * n ≤ 36 ∧ 0 ≤ n * n := by
        obtain ⟨m, rfl⟩ := Int.eq_ofNat_of_zero_le (show 0 ≤ n by omega)
        have : m * m ≤ 6 * 6 := Nat.mul_le_mul (by omega) (by omega)
        omega
      have w1 : IntKind.i64.wrap (n * n) = n * n := IntWalk.i64_in _ (by omega)
      unfold afV
      go_enter Tryz.func38, Tryz.ntmps38
      go_wp2_with fail
      go_ret
      exact ⟨rfl, rfl⟩) (fun n W n2 n6 => by
      unfold afK
      go_enter Tryz.func39, Tryz.ntmps39
      go_wp2_with fail
      go_ret
      exact ⟨rfl, rfl⟩))
  generalize ordP afV afK P A = z at *
  unfold dv at K ⊢
  go_enter Tryz.func8, Tryz.ntmps8
  go_wp2_with fail
  refine K.out.mono ?_
  rintro e w2 ⟨rfl, h2⟩
  have hS2 := hS0.call0 h2
  go_wp2_with fail
  go_ret
  exact ⟨rfl, hS2.out⟩
theorem ParallelClasses_c (P : Nat) (v : Value) (us : List Value) (A : List (List Int)) (w : World) (hv : RII w v us A) (hok : dOk P A = true) (ho : ordP afV afK P A ≠ 0) :
    Calls Tryz.prog 40 #[dv P v] w (MakesC2 w (pcK A A.length) 0) := by
  obtain ⟨a, c, hsh⟩ := hv.1.sl.sh
  rw [hv.2.1] at hsh
  subst hsh
  have hS0 := (St.refl w).newboxF 28 #[.int .i64 P, .slice a A.length c]
  have b0 := hS0.bcell 0 rfl 0 rfl
  have b1 := hS0.bcell 0 rfl 1 rfl
  have KV := fun W h => Lib.hid (ValidDesign_c P (.slice a A.length c) us A W h)
  rw [hok] at KV
  have KA := fun W h => Lib.hid (AffineOrder_c P (.slice a A.length c) us A W h hok)
  have KC := fun W h => Lib.hid (parallelClasses_c P (.slice a A.length c) us A W h (dOk_t hok).len)
  have KV := KV _ (hS0.oldII hv)
  have f1 := eq_f ho
  generalize ordP afV afK P A = z at *
  generalize pcK A A.length = C at *
  unfold dv at KV KA KC ⊢
  go_enter Tryz.func40, Tryz.ntmps40
  go_wp2_with (first
    | (go_at_call 18; refine KV.out.mono ?_; rintro e w2 ⟨rfl, h2⟩; have hS2 := hS0.call0 h2; have c0 := hS2.bcell 0 rfl 0 rfl; have c1 := hS2.bcell 0 rfl 1 rfl)
    | (go_at_call 8; refine (KA _ (hS2.oldII hv)).out.mono ?_; rintro e w3 ⟨rfl, h3⟩; have hS3 := hS2.call0 h3; have d0 := hS3.bcell 0 rfl 0 rfl; have d1 := hS3.bcell 0 rfl 1 rfl)
    | (go_at_call 74; refine (KC _ (hS3.oldII hv)).out.mono ?_; rintro e w4 ⟨v4, u4, rfl, hl4, h4⟩; have hS4 := hS3.call h4))
  go_ret2
  exact ⟨v4, u4, rfl, hl4, hS4.sub (List.sublist_cons_self _ _)⟩
end Go.Proofs.YtdgmaodnkbgolaaGreat
end

section
/- Squares of a field, isotopes and products of orthogonal squares, in plain terms. -/
namespace Go.Proofs.YtdgmaodnkbgolaaGreat
set_option linter.unusedSimpArgs false
set_option linter.unusedVariables false
section
variable {p : Int} {D : Nat} {fs : List Int}
theorem fsum_self (h : FA p D fs) {a : Int} (ha : El p D a) : fsum p D a a (-1) = 0 := by
  have hp : 0 < p := by have := h.p2; omega
  have e : fsum p D 0 a 1 = a := by rw [fsum_comm, fsum_zero h.p2 ha]
  have := fsum_undo hp (el_zero h) a 1 (-1) (by omega)
  rwa [e] at this
theorem fsum_inj (h : FA p D fs) {a b c : Int} (ha : El p D a) (hb : El p D b) (e : fsum p D a c 1 = fsum p D b c 1) : a = b := by
  have hp : 0 < p := by have := h.p2; omega
  rw [← fsum_undo hp ha c 1 (-1) (by omega), e, fsum_undo hp hb c 1 (-1) (by omega)]
theorem fsum_diff (h : FA p D fs) {a b : Int} (ha : El p D a) (hb : El p D b) (e : fsum p D a b (-1) = 0) : a = b := by
  have hp : 0 < p := by have := h.p2; omega
  have := fsum_undo hp ha b (-1) 1 (by omega)
  rw [e, fsum_comm, fsum_zero h.p2 hb] at this
  exact this.symm
theorem fmul_inj (h : FV p D fs) {m x y : Int} (hm : El p D m) (m0 : m ≠ 0) (hx : El p D x) (hy : El p D y) (e : fmul p D fs m x = fmul p D fs m y) : x = y := by
  have hp : 0 < p := by have := h.p2; omega
  have e2 : fmul p D fs m (fsum p D x y (-1)) = 0 := by rw [fmul_fsum h.fa, e, fsum_self h.fa (fmul_el h.fa _ _)]
  rcases h.nzd hm (fsum_el hp _ _ _) e2 with h1 | h1
  · exact absurd h1 m0
  · exact fsum_diff h.fa hx hy h1
theorem fsum_cut (hp : 0 < p) {a b y a' b' y' : Int} (e1 : fsum p D a y 1 = fsum p D a' y' 1) (e2 : fsum p D b y 1 = fsum p D b' y' 1) : fsum p D a b (-1) = fsum p D a' b' (-1) := by
  have key : ∀ a b y : Int, fsum p D (fsum p D a y 1) (fsum p D b y 1) (-1) = fsum p D a b (-1) := fun a b y => by
    refine (fsum_el hp _ _ _).ext hp (fsum_el hp _ _ _) fun i hi => ?_
    rw [dc_fsum hp hi, dc_fsum hp hi, dc_fsum hp hi, dc_fsum hp hi]
    rw [Int.emod_add_emod, show ∀ u : Int, u + -1 * ((dc p D b i + 1 * dc p D y i) % p) = u - (dc p D b i + 1 * dc p D y i) % p from fun u => by omega]
    rw [Int.sub_emod, Int.emod_emod, ← Int.sub_emod]
    congr 1; omega
  rw [← key a b y, ← key a' b' y', e1, e2]
/-- the square of the factor m -/
def fsq (p : Int) (D : Nat) (fs : List Int) (q : Nat) (m : Int) : List (List Int) := sqF q fun x y => fsum p D (fmul p D fs m x) y 1
theorem el_nat {q : Nat} (_ : FV p D fs) (hq : p ^ D = (q : Int)) {x : Nat} (hx : x < q) : El p D (x : Int) := ⟨by omega, by rw [hq]; omega⟩
theorem fsq_at {q : Nat} (_ : FV p D fs) (_ : p ^ D = (q : Int)) {m : Int} {x y : Nat} (hx : x < q) (hy : y < q) : at2 (fsq p D fs q m) x y = fsum p D (fmul p D fs m x) y 1 := by unfold fsq; rw [at2_sqF hx hy]
variable {q : Nat} (h : FV p D fs) (hq : p ^ D = (q : Int))
include h hq
theorem fsq_sq0 (m : Int) : Sq0 q (fsq p D fs q m) := ⟨sqF_sqr _ _, fun x y hx hy => by
  have hp : 0 < p := by have := h.p2; omega
  have := fsum_el (D := D) hp (fmul p D fs m x) y 1
  unfold fsq; rw [at2_sqF hx hy]
  rw [El, hq] at this; exact this⟩
theorem fsq_lat {m : Int} (hm : El p D m) (m0 : m ≠ 0) (q1 : 1 ≤ q) (q10 : q ≤ 10) : Lat (fsq p D fs q m) := by
  have h0 := fsq_sq0 h hq m
  have hl : (fsq p D fs q m).length = q := h0.len
  refine ⟨by rw [hl]; exact q1, by rw [hl]; exact q10, fun x hx => by rw [hl] at hx ⊢; exact h0.row x hx, fun x hx => ?_, fun y hy => ?_⟩
  · rw [hl] at hx
    refine ⟨fun y hy => ?_, fun y z hy hz e => ?_⟩
    · rw [h0.row x hx] at hy ⊢; exact h0.el x y hx hy
    · rw [h0.row x hx] at hy hz
      have e' : at2 (fsq p D fs q m) x y = at2 (fsq p D fs q m) x z := e
      rw [fsq_at h hq hx hy, fsq_at h hq hx hz, fsum_comm, fsum_comm _ (z : Int)] at e'
      have := fsum_inj h.fa (el_nat h hq hy) (el_nat h hq hz) e'
      omega
  · rw [hl] at hy
    refine ⟨fun x hx => ?_, fun x z hx hz e => ?_⟩
    · rw [colL_len, hl] at hx ⊢; rw [nth_colL (by rw [hl]; exact hx)]; exact h0.el x y hx hy
    · rw [colL_len, hl] at hx hz
      rw [nth_colL (by rw [hl]; exact hx), nth_colL (by rw [hl]; exact hz), fsq_at h hq hx hy, fsq_at h hq hz hy] at e
      have e1 := fsum_inj h.fa (fmul_el h.fa _ _) (fmul_el h.fa _ _) e
      have := fmul_inj h hm m0 (el_nat h hq hx) (el_nat h hq hz) e1
      omega
theorem fsq_ort {m m' : Int} (hm : El p D m) (hm' : El p D m') (hne : m ≠ m') : Ort q (fsq p D fs q m) (fsq p D fs q m') := fun x y x' y' hx hy hx' hy' e1 e2 => by
  have hp : 0 < p := by have := h.p2; omega
  rw [fsq_at h hq hx hy, fsq_at h hq hx' hy'] at e1 e2
  have e3 := fsum_cut hp e1 e2
  rw [fmul_comm h.fa m, fmul_comm h.fa m', fmul_comm h.fa m, fmul_comm h.fa m', ← fmul_fsum h.fa, ← fmul_fsum h.fa, fmul_comm h.fa (x : Int), fmul_comm h.fa (x' : Int)] at e3
  have hd0 : fsum p D m m' (-1) ≠ 0 := fun e => hne (fsum_diff h.fa hm hm' e)
  have e4 := fmul_inj h (fsum_el hp _ _ _) hd0 (el_nat h hq hx) (el_nat h hq hx') e3
  have e5 : x = x' := by omega
  subst e5
  rw [fsum_comm, fsum_comm _ (y' : Int)] at e1
  have := fsum_inj h.fa (el_nat h hq hy) (el_nat h hq hy') e1
  exact ⟨rfl, by omega⟩
end
/-- all squares of the field -/
def fmL (p : Int) (D : Nat) (fs : List Int) (q : Nat) (k : Nat) : List (List (List Int)) := (List.range k).map fun i : Nat => fsq p D fs q ((i : Int) + 1)
theorem fmL_len (p : Int) (D : Nat) (fs : List Int) (q k : Nat) : (fmL p D fs q k).length = k := by simp [fmL]
theorem fmL_at {p : Int} {D : Nat} {fs : List Int} {q k i : Nat} (hi : i < k) : x3at (fmL p D fs q k) i = fsq p D fs q ((i : Int) + 1) := by simp [fmL, x3at, hi]
theorem fmL_succ (p : Int) (D : Nat) (fs : List Int) (q k : Nat) : fmL p D fs q (k + 1) = fmL p D fs q k ++ [fsq p D fs q ((k : Int) + 1)] := by simp [fmL, List.range_succ]
theorem fmL_mols {p : Int} {D : Nat} {fs : List Int} {q : Nat} (h : FV p D fs) (hq : p ^ D = (q : Int)) (q2 : 2 ≤ q) (q10 : q ≤ 10) : Mols (fmL p D fs q (q - 1)) := by
  have hel : ∀ i, i < q - 1 → El p D ((i : Int) + 1) := fun i hi => ⟨by omega, by rw [hq]; omega⟩
  refine ⟨by rw [fmL_len]; omega, by rw [fmL_len]; omega, fun k hk => ?_, fun k i hi hk => ?_⟩
  · rw [fmL_len] at hk
    rw [fmL_at hk]; exact fsq_lat h hq (hel k hk) (by omega) (by omega) q10
  · rw [fmL_len] at hk
    rw [fmL_at hk, fmL_at (by omega)]
    have l1 : (fsq p D fs q ((k : Int) + 1)).length = q := (fsq_sq0 h hq _).len
    have l2 : (fsq p D fs q ((i : Int) + 1)).length = q := (fsq_sq0 h hq _).len
    exact orB_yes (by rw [l1, l2]) (by rw [l1]; exact fsq_ort h hq (hel k hk) (hel i (by omega)) (by omega))
/-! ### isotopes -/
/-! ### products -/
section
variable {n m : Nat}
variable {A B A' B' : List (List Int)}
end
end Go.Proofs.YtdgmaodnkbgolaaGreat
end

section
/- Walks: the squares of a field. Walks: all squares of a field; products of squares. Walks: products of lists of orthogonal squares; orders that are drawn. -/
namespace Go.Proofs.YtdgmaodnkbgolaaGreat
set_option linter.unusedSimpArgs false
set_option linter.unusedVariables false
open Go.RowKit
attribute [local go_sem ↓] Go.wp_at_zero Go.wp_at_succ


set_option maxHeartbeats 4000000 in
set_option maxRecDepth 100000 in
theorem fsq1_c (x y : Nat) (gf gm : Nat) (p : Int) (D : Nat) (vf : Value) (fs : List Int) (m : Int) (w : World) (c0 : w.cell? ⟨gf, 0, none⟩ = some (.int .i64 p)) (c1 : w.cell? ⟨gf, 1, none⟩ = some (.int .i64 D)) (c2 : w.cell? ⟨gf, 2, none⟩ = some vf) (cm : w.cell? ⟨gm, 0, none⟩ = some (.int .i64 m))
    (hr : RdI w vf fs) (hf : FV p D fs) (m0 : 0 ≤ m) (m1 : m ≤ 1000000) (hx : x ≤ 1000000) (hy : y ≤ 1000000) :
    Calls Tryz.prog 81 #[.int .i64 x, .int .i64 y, .pointer (some ⟨gf, 0, none⟩), .pointer (some ⟨gm, 0, none⟩)] w (GivesI w (fsum p D (fmul p D fs m x) y 1)) := by
  have q0 : ∀ s : SS w.heap.size w [], s.w.cell? ⟨gf, 0, none⟩ = some (.int .i64 p) := fun s => by rw [s.st.below.cell (World.block_lt_of_cell? _ _ c0)]; exact c0
  have q1 : ∀ s : SS w.heap.size w [], s.w.cell? ⟨gf, 1, none⟩ = some (.int .i64 D) := fun s => by rw [s.st.below.cell (World.block_lt_of_cell? _ _ c1)]; exact c1
  have q2 : ∀ s : SS w.heap.size w [], s.w.cell? ⟨gf, 2, none⟩ = some vf := fun s => by rw [s.st.below.cell (World.block_lt_of_cell? _ _ c2)]; exact c2
  have q3 : ∀ s : SS w.heap.size w [], s.w.cell? ⟨gm, 0, none⟩ = some (.int .i64 m) := fun s => by rw [s.st.below.cell (World.block_lt_of_cell? _ _ cm)]; exact cm
  have he := (fmul_el hf.fa m x).lim hf
  have KP := fun s : SS w.heap.size w [] => Lib.hid (product_c p D vf fs m x s.w (s.st.oldI hr) hf m0 m1 (by omega) (by omega))
  have KC := fun s : SS w.heap.size w [] => Lib.hid (combine_c p D vf fs (fmul p D fs m x) y 1 s.w (s.st.oldI hr) hf he.1 he.2 (by omega) (by omega) (.inl rfl))
  unfold fv at KP KC
  have hS := St.refl w
  clear he hf
  generalize fsum p D (fmul p D fs m x) y 1 = R at *
  generalize fmul p D fs m x = M at *
  clear c0 c1 c2 cm
  go_enter Tryz.func81, Tryz.ntmps81
  go_wp2_with fail
  have hne : Nonempty (SS _ _ _) := ⟨⟨_, hS⟩⟩
  refine wp_region_st (by kernel_rfl) (by kernel_rfl) hS ?_
  repeat (go_big_quiet_step ((first | (go_at_call 52; exact st_quiet (KP _).out) | (go_at_call 51; exact st_quiet (KC _).out))))
  refine wpQuiet_nil ?_
  rintro _ ⟨s2, rfl⟩
  have hS2 := s2.st
  generalize s2.w = w2 at hS2 ⊢
  go_wp2_with fail
  go_ret
  exact ⟨rfl, hS2⟩
/-- what the field of n elements is -/
structure FQ (n : Nat) (p : Int) (D : Nat) (fs : List Int) : Prop where
  fv : FV p D fs
  pow : p ^ D = (n : Int)
  n2 : 2 ≤ n
  n10 : n ≤ 10
theorem mk_fq {q : Int} (h : mkOk q = true) (h10 : q ≤ 10) : ∃ (n : Nat) (p : Int) (D : Nat) (fs : List Int), q = n ∧ FQ n p D fs ∧ mkfP q = p ∧ mkfD q = D ∧ mkfL q = fs ∧ mkfC q = 0 := by
  obtain ⟨n, rfl, h2, h64, hm⟩ := mkOk_t h
  refine ⟨n, ((spl n).1 : Nat), (spl n).2, mkF n, rfl, ⟨hm.fv h64, ?_, h2, by omega⟩, ?_⟩
  · rw [← Int.natCast_pow, hm.pw]
  · simp [mkfP, mkfD, mkfL, mkfC, h]
set_option maxHeartbeats 4000000 in
set_option maxRecDepth 100000 in
theorem FieldSquare_c (n : Nat) (m : Int) (p : Int) (D : Nat) (fs : List Int) (w : World) (hq : FQ n p D fs) (hP : mkfP n = p) (hD : mkfD n = D) (hL : mkfL n = fs) (hC : mkfC n = 0) (m1 : 1 ≤ m) (m2 : m ≤ (n : Int) - 1) :
    Calls Tryz.prog 49 #[.int .i64 n, .int .i64 m] w (IIK w (fsq p D fs n m) 0) := by
  have hS0 := (St.refl w).newboxF 2 #[.int .i64 m]
  have HM := fun W => Lib.hid (MakeField_c n W)
  rw [hP, hD, hL, hC] at HM
  have n10 := hq.n10
  have n2 := hq.n2
  have i1 := inB_true (n := m) (a := 1) (b := (n : Int) - 1) ⟨m1, m2⟩
  have hcf := callFunc_go Tryz.func81 (by kernel_rfl) (by kernel_rfl)
  have hmf : ∀ (fn : Fn) (first cap : Array Value) (w : World), (Instr.makeFunc fn first cap).run Tryz.prog w = .ok (.func fn first cap) w := fun _ _ _ _ => rfl
  have Hcf := Lib.hid hcf
  have HF := Lib.hid (show fsq p D fs n m = sqF n fun x y => fsum p D (fmul p D fs m x) y 1 from rfl)
  have Hq := Lib.hid hq
  clear hcf hP hD hL hC hq
  go_enter Tryz.func49, Tryz.ntmps49
  go_wp2_with fail
  refine (HM _).out.mono ?_
  rintro e w1 ⟨v, rfl, h1⟩
  obtain ⟨va, vc, rfl⟩ := (h1.rdI 0 rfl).shq
  have hS1 := hS0.call h1
  have hS2 := hS1.newboxF 73 #[.int .i64 p, .int .i64 D, .slice va fs.length vc]
  have b0 := hS2.bcell 0 rfl 0 rfl
  have b1 := hS2.bcell 0 rfl 1 rfl
  have b2 := hS2.bcell 0 rfl 2 rfl
  have bm := hS2.bcell 1 rfl 0 rfl
  have rf := hS2.rdI 2 rfl
  have hcall := Lib.hid (filledSquare_c 81 #[.pointer (some ⟨w1.heap.size, 0, none⟩), .pointer (some ⟨w.heap.size, 0, none⟩)] (fun x y => fsum p D (fmul p D fs m x) y 1) n _ (by omega) Hcf.out (fun x y W hW hx hy =>
    fsq1_c x y w1.heap.size w.heap.size p D (.slice va fs.length vc) fs m W
      (by rw [hW.below.cell (World.block_lt_of_cell? _ _ b0)]; exact b0) (by rw [hW.below.cell (World.block_lt_of_cell? _ _ b1)]; exact b1) (by rw [hW.below.cell (World.block_lt_of_cell? _ _ b2)]; exact b2) (by rw [hW.below.cell (World.block_lt_of_cell? _ _ bm)]; exact bm)
      (rf.keep hW.below) Hq.out.fv (by omega) (by omega) (by omega) (by omega)))
  unfold fv
  clear hS0 h1 hS1 b0 b1 b2 rf
  go_wp2_with (first
    | (go_at_call 32; refine hcall.out.mono ?_; rintro e w3 ⟨o, uo, rfl, hl, h3⟩; have Hl := Lib.hid hl; have hS3 := hS2.call h3; clear hl h3)
    | (go_at_call 48; refine (within_c _ _ _ _).mono ?_; rw [i1]; rintro e w2 ⟨rfl, rfl⟩))
  go_ret2
  rw [HF.out]
  exact ⟨o, uo, rfl, Hl.out, hS3.sub (List.sublist_append_right _ _)⟩


/-- squares and a code -/
def IIIK (w : World) (X : List (List (List Int))) (c : Int) (e : Ending) (w' : World) : Prop := ∃ v vs uss, e = .returned (.tuple #[v, .int .i64 c]) ∧ Fit3 vs uss X ∧ St w.heap.size w w' (own3 v vs uss X)
theorem fitE : Fit3 [] [] [] := ⟨rfl, rfl, fun k h => by simp at h⟩
theorem IIIK.no {w w' : World} {L : List Ent} {c : Int} (h : St w.heap.size w w' L) : IIIK w [] c (.returned (.tuple #[.slice none 0 0, .int .i64 c])) w' := ⟨_, [], [], rfl, fitE, h.out.newnil _⟩
theorem IIIK.riii {w w' : World} {v : Value} {vs : List Value} {uss : List (List Value)} {X : List (List (List Int))} (hf : Fit3 vs uss X) (h : St w.heap.size w w' (own3 v vs uss X)) : RIII w' v vs uss X := St.riii (L2 := []) (by rw [List.append_nil]; exact h) hf
set_option maxHeartbeats 4000000 in
set_option maxRecDepth 100000 in
theorem FieldMols_c (n : Nat) (p : Int) (D : Nat) (fs : List Int) (w : World) (hq : FQ n p D fs) (hP : mkfP n = p) (hD : mkfD n = D) (hL : mkfL n = fs) (hC : mkfC n = 0) :
    Calls Tryz.prog 12 #[.int .i64 n] w (IIIK w (fmL p D fs n (n - 1)) 0) := by
  have HF := fun W m (h1 : 1 ≤ m) h2 => Lib.hid (FieldSquare_c n m p D fs W hq hP hD hL hC h1 h2)
  have n10 := hq.n10
  have n2 := hq.n2
  have HL := fun k => Lib.hid (fmL_len p D fs n k)
  have HS := fun k => Lib.hid (fmL_succ p D fs n k)
  have HQ := fun m => Lib.hid (fsq_sq0 hq.fv hq.pow m).len
  clear hq hP hD hL hC
  have H1 := HF w 1 (by omega) (by omega)
  go_enter Tryz.func12, Tryz.ntmps12
  go_wp2_with fail
  refine H1.out.mono ?_
  rintro e w1 ⟨v, us, rfl, _, h1⟩
  have hS1 := h1.out.newnil 26
  simp only [List.nil_append] at hS1
  clear h1 H1
  go_wp2_with fail
  go_loopw [6, 7, 8, 9] (fun o m _ _ wr => ∃ (k : Nat) (vs : List Value) (uss : List (List Value)), k ≤ n - 1 ∧ m = .int .i64 ((k : Int) + 1) ∧ Hid (Fit3 vs uss (fmL p D fs n k)) ∧ St w.heap.size w wr (own3 o vs uss (fmL p D fs n k))) (fun _ m _ _ _ => n - (intOf m).toNat)
  case atStart => exact ⟨0, [], [], by omega, rfl, fitE, hS1⟩
  case round =>
    clear hS1
    obtain ⟨k, vs, uss, hk, rfl, hf, hS⟩ := hrel
    by_cases hlt : (k : Int) + 1 < n
    · have hkn : k < n - 1 := by omega
      have Hvl := Lib.hid (show vs.length < 4294967296 by rw [hf.out.1, (HL k).out]; omega)
      have Hs := HS k
      go_wp2_with fail
      refine (HF _ ((k : Int) + 1) (by omega) (by omega)).out.mono ?_
      rintro e w2 ⟨u, us2, rfl, hl2, h2⟩
      obtain ⟨ua, uc, rfl⟩ := (h2.rd 0 rfl).sl.sh
      have hS2 := hS.call h2
      have Hl2 := Lib.hid hl2
      clear hS h2 hl2
      go_wp2_with (at_builtin; refine appIII hS2 0 rfl Hvl.out rfl _ _ rfl rfl _ rfl rfl ?_; intro v5 w5 hS5)
      have hf5 := Lib.hid (hf.out.snoc (.slice ua us2.length uc) Hl2.out)
      have hS6 := own3_snoc hf.out.1 hf.out.2.1 hS5
      rw [← Hs.out] at hf5 hS6
      go_roundw
      case rel => exact ⟨k + 1, _, _, by omega, by go_num, hf5.out, hS6⟩
      case measure => simp [intOf]; omega
    · obtain rfl : k = n - 1 := by omega
      go_wp2_with fail
      go_ret2
      exact ⟨_, vs, uss, rfl, hf.out, hS⟩
section
variable {ops : Array Oper} {o : Oper} {a : Act} {K : Act → World → Prop} {Q : Exit → Act → World → Prop} {E : Prop} {B : Nat} {w0 w : World} {L : List Ent}
end
end Go.Proofs.YtdgmaodnkbgolaaGreat
end

section
/- Walks: squares of a plane. -/
namespace Go.Proofs.YtdgmaodnkbgolaaGreat
set_option linter.unusedSimpArgs false
set_option linter.unusedVariables false
open Go.RowKit
attribute [local go_sem ↓] Go.wp_at_zero Go.wp_at_succ

theorem cell_keepS {w w' : World} (hb : Below w.heap.size w w') {p : Addr} {u : Value} (h : w.cell? p = some u) : w'.cell? p = some u := by
  rw [hb.cell (World.block_lt_of_cell? _ _ h)]; exact h
set_option maxHeartbeats 4000000 in
set_option maxRecDepth 100000 in
theorem mp2_c (k gD gP : Nat) (a : Option Addr) (c : Nat) (us : List Value) (A : List (List Int)) (p : Int) (w : World) (hD1 : w.cell? ⟨gD, 1, none⟩ = some (.slice a A.length c)) (hP : w.cell? ⟨gP, 0, none⟩ = some (.int .i64 p)) (rA : RII w (.slice a A.length c) us A) (hk : k < A.length) :
    Calls Tryz.prog 44 #[.int .i64 k, .pointer (some ⟨gD, 0, none⟩), .pointer (some ⟨gP, 0, none⟩)] w (GivesB w ((xat A k).contains p)) := by
  have c1 := rA.cell k hk
  have x1 := rA.ixe (k : Int) k rfl hk
  have hSd := (St.refl w).drew
  have KC := Lib.hid (Contains_c (vat us k) (xat A k) p w.drew (hSd.oldI (rA.row k hk)))
  clear rA
  go_enter Tryz.func44, Tryz.ntmps44
  go_wp2_with fail
  go_region_held3 (fun w' => w'.cell? ⟨gD, 1, none⟩ = some (.slice a A.length c) ∧ w'.cell? ⟨gP, 0, none⟩ = some (.int .i64 p) ∧ w'.cell? (el (.slice a A.length c) k) = some (vat us k)) (go_keep) (
    (go_at_call 45; refine KC.out.mono ?_; rintro e5 w5 ⟨rfl, hw⟩; subst hw; have e0 := cell_dr hD1; have e1 := cell_dr hP; have e2 := cell_dr c1))
  go_wp2_with fail
  go_ret
  exact ⟨ret_bool (by rw [Bool.eq_iff_iff, decide_eq_true_eq, List.contains_iff_mem]), hSd⟩
def CutP (w : World) (p : Int) (t : Value) (w' : World) : Prop := ∃ g : Nat, t = .pointer (some ⟨g, 0, none⟩) ∧ w'.cell? ⟨g, 0, none⟩ = some (.int .i64 p) ∧ St w.heap.size w w' []
set_option maxHeartbeats 8000000 in
set_option maxRecDepth 100000 in
theorem mp1_c (x y i j gD gC gK : Nat) (a ca : Option Addr) (c cc : Nat) (us uc : List Value) (A C : List (List Int)) (vk : Value) (xs : List Int) (w : World)
    (hD1 : w.cell? ⟨gD, 1, none⟩ = some (.slice a A.length c)) (hC0 : w.cell? ⟨gC, 0, none⟩ = some (.slice ca C.length cc)) (hK0 : w.cell? ⟨gK, 0, none⟩ = some vk)
    (rA : RII w (.slice a A.length c) us A) (rC : RII w (.slice ca C.length cc) uc C) (rK : RdI w vk xs) (hC2 : 2 ≤ C.length) (hx : x < (xat C 0).length) (hy : y < (xat C 1).length) (hi : nth (xat C 0) x = (i : Int)) (hj : nth (xat C 1) y = (j : Int))
    (hiA : i < A.length) (hjA : j < A.length) (hm : 0 < (meB (xat A i) (xat A j)).length) (hk : ∀ z ∈ xs, ∃ k : Nat, z = k ∧ k < A.length) :
    Calls Tryz.prog 41 #[.int .i64 x, .int .i64 y, .pointer (some ⟨gD, 0, none⟩), .pointer (some ⟨gC, 0, none⟩), .pointer (some ⟨gK, 0, none⟩)] w (GivesI w (idxP (hasP A (nth (meB (xat A i) (xat A j)) 0)) xs 0)) := by
  have cC0 := rC.cell 0 (by omega)
  have cC1 := rC.cell 1 (by omega)
  have xC0 := rC.ixe 0 0 rfl (by omega)
  have xC1 := rC.ixe 1 1 rfl (by omega)
  have r0 := rC.row 0 (by omega)
  have r1 := rC.row 1 (by omega)
  have cx := r0.cell x hx
  have cy := r1.cell y hy
  rw [hi] at cx
  rw [hj] at cy
  have xx := r0.ixe (x : Int) x rfl hx
  have yy := r1.ixe (y : Int) y rfl hy
  have xi := rA.ixe (i : Int) i rfl hiA
  have xj := rA.ixe (j : Int) j rfl hjA
  have ci := rA.cell i hiA
  have cj := rA.cell j hjA
  have hSd := (St.refl w).drew
  have hSb := ((St.refl w).newboxF 2 #[.int .i64 0]).drew
  have KM := Lib.hid (fun W (h : RII W (.slice a A.length c) us A) => MeetSets_c (vat us i) (vat us j) (xat A i) (xat A j) W (h.row i hiA) (h.row j hjA))
  have hme : ifSets (xat A i) (xat A j) (mee (xat A i) (xat A j)) = meB (xat A i) (xat A j) := rfl
  rw [hme] at KM
  have HA := Lib.hid rA
  have HK := Lib.hid rK
  have Hk := Lib.hid hk
  have HD1 := Lib.hid hD1
  have HK0 := Lib.hid hK0
  generalize meB (xat A i) (xat A j) = B at *
  clear rA rC rK r0 r1 hi hj hk hme
  go_enter Tryz.func41, Tryz.ntmps41
  go_wp2_with fail
  have q1 : gD < w.heap.size := World.block_lt_of_cell? _ _ hD1
  have q2 : gC < w.heap.size := World.block_lt_of_cell? _ _ hC0
  have q3 := World.block_lt_of_cell? _ _ cC0
  have q4 := World.block_lt_of_cell? _ _ cC1
  have q5 := World.block_lt_of_cell? _ _ cx
  have q6 := World.block_lt_of_cell? _ _ cy
  have q7 := World.block_lt_of_cell? _ _ ci
  have q8 := World.block_lt_of_cell? _ _ cj
  have n1 : w.heap.size ≠ gD := Nat.ne_of_gt q1
  have n2 : w.heap.size ≠ gC := Nat.ne_of_gt q2
  have n3 := Nat.ne_of_gt q3
  have n4 := Nat.ne_of_gt q4
  have n5 := Nat.ne_of_gt q5
  have n6 := Nat.ne_of_gt q6
  have n7 := Nat.ne_of_gt q7
  have n8 := Nat.ne_of_gt q8
  have m1 : gD ≠ w.heap.size := Nat.ne_of_lt q1
  have m2 : gC ≠ w.heap.size := Nat.ne_of_lt q2
  have m3 := Nat.ne_of_lt q3
  have m4 := Nat.ne_of_lt q4
  have m5 := Nat.ne_of_lt q5
  have m6 := Nat.ne_of_lt q6
  have m7 := Nat.ne_of_lt q7
  have m8 := Nat.ne_of_lt q8
  go_cut [8] from 9 to 31 (fun t w' => CutP w (nth B 0) t w')
  case first =>
    refine regionG (fun w' => w'.cell? ⟨gD, 1, none⟩ = some (.slice a A.length c) ∧ w'.cell? ⟨gC, 0, none⟩ = some (.slice ca C.length cc) ∧ w'.cell? (el (.slice ca C.length cc) 0) = some (vat uc 0) ∧ w'.cell? (el (.slice ca C.length cc) 1) = some (vat uc 1) ∧ w'.cell? (el (vat uc 0) x) = some (.int .i64 i) ∧ w'.cell? (el (vat uc 1) y) = some (.int .i64 j) ∧ w'.cell? (el (.slice a A.length c) i) = some (vat us i) ∧ w'.cell? (el (.slice a A.length c) j) = some (vat us j)) 20 (by kernel_rfl) ⟨cell_dr hD1, cell_dr hC0, cell_dr cC0, cell_dr cC1, cell_dr cx, cell_dr cy, cell_dr ci, cell_dr cj⟩ (fun hHeld => ?_)
    refine takeP (i := 0) (v := ?_) rfl (by kernel_rfl) (fun _ _ _ h => h) (by rfl) ?_ (by assumption) ?_
    case refine_2 => (intro w'; go_simp; first | done | with_reducible rfl)
    try simp only [Act.put, List.setIfInBounds_toArray, List.set_cons_zero, List.set_cons_succ]
    refine takeH (i := 1) [8, 9] (v := ?_) rfl (by kernel_rfl) (fun _ _ _ h => h) (by rfl) ?_ (by assumption) ?_
    case refine_2 => (intro w' hSw; (try dsimp only at hSw); go_simp; first | done | with_reducible rfl)
    try simp only [Act.put, List.setIfInBounds_toArray, List.set_cons_zero, List.set_cons_succ]
    refine takeH (i := 2) [3, 4, 6, 7, 8, 9] (v := ?_) rfl (by kernel_rfl) (fun _ _ _ h => h) (by rfl) ?_ (by assumption) ?_
    case refine_2 => (intro w' hSw; (try dsimp only at hSw); go_simp; first | done | with_reducible rfl)
    try simp only [Act.put, List.setIfInBounds_toArray, List.set_cons_zero, List.set_cons_succ]
    refine takeP (i := 3) (v := ?_) rfl (by kernel_rfl) (fun _ _ _ h => h) (by rfl) ?_ (by assumption) ?_
    case refine_2 => (intro w'; go_simp; first | done | with_reducible rfl)
    try simp only [Act.put, List.setIfInBounds_toArray, List.set_cons_zero, List.set_cons_succ]
    refine takeH (i := 4) [6, 7, 8, 9] (v := ?_) rfl (by kernel_rfl) (fun _ _ _ h => h) (by rfl) ?_ (by assumption) ?_
    case refine_2 => (intro w' hSw; (try dsimp only at hSw); go_simp; first | done | with_reducible rfl)
    try simp only [Act.put, List.setIfInBounds_toArray, List.set_cons_zero, List.set_cons_succ]
    refine takeP (i := 5) (v := ?_) rfl (by kernel_rfl) (fun _ _ _ h => h) (by rfl) ?_ (by assumption) ?_
    case refine_2 => (intro w'; go_simp; first | done | with_reducible rfl)
    try simp only [Act.put, List.setIfInBounds_toArray, List.set_cons_zero, List.set_cons_succ]
    refine takeP (i := 6) (v := ?_) rfl (by kernel_rfl) (fun _ _ _ h => h) (by rfl) ?_ (by assumption) ?_
    case refine_2 => (intro w'; go_simp; first | done | with_reducible rfl)
    try simp only [Act.put, List.setIfInBounds_toArray, List.set_cons_zero, List.set_cons_succ]
    refine takeH (i := 7) [8, 9] (v := ?_) rfl (by kernel_rfl) (fun _ _ _ h => h) (by rfl) ?_ (by assumption) ?_
    case refine_2 => (intro w' hSw; (try dsimp only at hSw); go_simp; first | done | with_reducible rfl)
    try simp only [Act.put, List.setIfInBounds_toArray, List.set_cons_zero, List.set_cons_succ]
    refine takeP (i := 8) (v := ?_) rfl (by kernel_rfl) (fun _ _ _ h => h) (by rfl) ?_ (by assumption) ?_
    case refine_2 => (intro w'; go_simp; first | done | with_reducible rfl)
    try simp only [Act.put, List.setIfInBounds_toArray, List.set_cons_zero, List.set_cons_succ]
    refine takeH (i := 9) [] (v := ?_) rfl (by kernel_rfl) (fun _ _ _ h => h) (by rfl) ?_ (by assumption) ?_
    case refine_2 => (intro w' hSw; (try dsimp only at hSw); go_simp; first | done | with_reducible rfl)
    try simp only [Act.put, List.setIfInBounds_toArray, List.set_cons_zero, List.set_cons_succ]
    refine takeP (i := 10) (v := ?_) rfl (by kernel_rfl) (fun _ _ _ h => h) (by rfl) ?_ (by assumption) ?_
    case refine_2 => (intro w'; go_simp; first | done | with_reducible rfl)
    try simp only [Act.put, List.setIfInBounds_toArray, List.set_cons_zero, List.set_cons_succ]
    refine takeH (i := 11) [18, 19] (v := ?_) rfl (by kernel_rfl) (fun _ _ _ h => h) (by rfl) ?_ (by assumption) ?_
    case refine_2 => (intro w' hSw; (try dsimp only at hSw); go_simp; first | done | with_reducible rfl)
    try simp only [Act.put, List.setIfInBounds_toArray, List.set_cons_zero, List.set_cons_succ]
    refine takeH (i := 12) [13, 14, 16, 17, 18, 19] (v := ?_) rfl (by kernel_rfl) (fun _ _ _ h => h) (by rfl) ?_ (by assumption) ?_
    case refine_2 => (intro w' hSw; (try dsimp only at hSw); go_simp; first | done | with_reducible rfl)
    try simp only [Act.put, List.setIfInBounds_toArray, List.set_cons_zero, List.set_cons_succ]
    refine takeP (i := 13) (v := ?_) rfl (by kernel_rfl) (fun _ _ _ h => h) (by rfl) ?_ (by assumption) ?_
    case refine_2 => (intro w'; go_simp; first | done | with_reducible rfl)
    try simp only [Act.put, List.setIfInBounds_toArray, List.set_cons_zero, List.set_cons_succ]
    refine takeH (i := 14) [16, 17, 18, 19] (v := ?_) rfl (by kernel_rfl) (fun _ _ _ h => h) (by rfl) ?_ (by assumption) ?_
    case refine_2 => (intro w' hSw; (try dsimp only at hSw); go_simp; first | done | with_reducible rfl)
    try simp only [Act.put, List.setIfInBounds_toArray, List.set_cons_zero, List.set_cons_succ]
    refine takeP (i := 15) (v := ?_) rfl (by kernel_rfl) (fun _ _ _ h => h) (by rfl) ?_ (by assumption) ?_
    case refine_2 => (intro w'; go_simp; first | done | with_reducible rfl)
    try simp only [Act.put, List.setIfInBounds_toArray, List.set_cons_zero, List.set_cons_succ]
    refine takeP (i := 16) (v := ?_) rfl (by kernel_rfl) (fun _ _ _ h => h) (by rfl) ?_ (by assumption) ?_
    case refine_2 => (intro w'; go_simp; first | done | with_reducible rfl)
    try simp only [Act.put, List.setIfInBounds_toArray, List.set_cons_zero, List.set_cons_succ]
    refine takeH (i := 17) [18, 19] (v := ?_) rfl (by kernel_rfl) (fun _ _ _ h => h) (by rfl) ?_ (by assumption) ?_
    case refine_2 => (intro w' hSw; (try dsimp only at hSw); go_simp; first | done | with_reducible rfl)
    try simp only [Act.put, List.setIfInBounds_toArray, List.set_cons_zero, List.set_cons_succ]
    refine takeP (i := 18) (v := ?_) rfl (by kernel_rfl) (fun _ _ _ h => h) (by rfl) ?_ (by assumption) ?_
    case refine_2 => (intro w'; go_simp; first | done | with_reducible rfl)
    try simp only [Act.put, List.setIfInBounds_toArray, List.set_cons_zero, List.set_cons_succ]
    refine takeH (i := 19) [] (v := ?_) rfl (by kernel_rfl) (fun _ _ _ h => h) (by rfl) ?_ (by assumption) ?_
    case refine_2 => (intro w' hSw; (try dsimp only at hSw); go_simp; first | done | with_reducible rfl)
    try simp only [Act.put, List.setIfInBounds_toArray, List.set_cons_zero, List.set_cons_succ]
    refine readyG (rs := [20, 23]) (by kernel_rfl) (by simp) ?_
    refine AllG.last rfl (by kernel_rfl) (fun K hK => ?_) (AllG.cons rfl (fun K hK => ?_) AllG.nil)
    · go_simp
      refine (KM.out _ (hSd.oldII HA.out)).mono ?_
      rintro e5 w5 ⟨vm, rfl, h5⟩
      have hV := (hSd.call h5).out
      have rB := h5.rdI 0 rfl
      have z0 := rB.cell 0 hm
      have zx := rB.ixe 0 0 rfl hm
      refine hK.out _ _ ?_
      clear hK K
      try simp only [Act.put, List.setIfInBounds_toArray, List.set_cons_zero, List.set_cons_succ]
      refine anyG_lastP (i := 21) (v := ?_) rfl (by kernel_rfl) (fun _ _ _ h => h) (by rfl) ?_ ?_
      case refine_2 => (intro w'; go_simp; first | done | with_reducible rfl)
      try simp only [Act.put, List.setIfInBounds_toArray, List.set_cons_zero, List.set_cons_succ]
      refine readyG (rs := [22, 23]) (by kernel_rfl) (by simp) ?_
      refine AllG.last rfl (by kernel_rfl) (fun K hK => ?_) (AllG.last rfl (by kernel_rfl) (fun K hK => ?_) AllG.nil)
      · go_simp
        refine hK.out _ _ ?_
        clear hK K
        try simp only [Act.put, List.setIfInBounds_toArray, List.set_cons_zero, List.set_cons_succ]
        refine readyG (rs := [23]) (by kernel_rfl) (by simp) ?_
        refine AllG.last rfl (by kernel_rfl) (fun K hK => ?_) AllG.nil
        go_simp
        refine hK.out _ _ ?_
        clear hK K
        try simp only [Act.put, List.setIfInBounds_toArray, List.set_cons_zero, List.set_cons_succ]
        have hV2 := hV.newboxF 2 #[.int .i64 0]
        have f0 := hV2.bfree 0 rfl
        have f1 := hV2.bcell 0 rfl 0 rfl
        refine readyG (rs := [24]) (by kernel_rfl) (by simp) ?_
        refine AllG.last rfl (by kernel_rfl) (fun K hK => ?_) AllG.nil
        go_simp
        refine hK.out _ _ ?_
        clear hK K
        try simp only [Act.put, List.setIfInBounds_toArray, List.set_cons_zero, List.set_cons_succ]
        refine doneG (by kernel_rfl) ?_ _
        refine NoPanic.normal ?_
        go_wp2_with fail
        go_meet
        case rel => exact (by first | exact ⟨_, rfl, (hV2.bstore 0 rfl 0 (.int .i64 (nth B 0))).bcell 0 rfl 0 rfl, (hV2.bstore 0 rfl 0 (.int .i64 (nth B 0))).out⟩ | exact ⟨_, rfl, (hV.newboxF 2 #[.int .i64 (nth B 0)]).bcell 0 rfl 0 rfl, (hV.newboxF 2 #[.int .i64 (nth B 0)]).out⟩)
      · go_simp
        refine hK.out _ _ ?_
        clear hK K
        try simp only [Act.put, List.setIfInBounds_toArray, List.set_cons_zero, List.set_cons_succ]
        have hV2 := hV.newboxF 2 #[.int .i64 0]
        have f0 := hV2.bfree 0 rfl
        have f1 := hV2.bcell 0 rfl 0 rfl
        have z1 := cell_al z0 (o := .cells #[.int .i64 0] 2)
        refine readyG (rs := [22]) (by kernel_rfl) (by simp) ?_
        refine AllG.last rfl (by kernel_rfl) (fun K hK => ?_) AllG.nil
        go_simp
        refine hK.out _ _ ?_
        clear hK K
        try simp only [Act.put, List.setIfInBounds_toArray, List.set_cons_zero, List.set_cons_succ]
        refine readyG (rs := [24]) (by kernel_rfl) (by simp) ?_
        refine AllG.last rfl (by kernel_rfl) (fun K hK => ?_) AllG.nil
        go_simp
        refine hK.out _ _ ?_
        clear hK K
        try simp only [Act.put, List.setIfInBounds_toArray, List.set_cons_zero, List.set_cons_succ]
        refine doneG (by kernel_rfl) ?_ _
        refine NoPanic.normal ?_
        go_wp2_with fail
        go_meet
        case rel => exact (by first | exact ⟨_, rfl, (hV2.bstore 0 rfl 0 (.int .i64 (nth B 0))).bcell 0 rfl 0 rfl, (hV2.bstore 0 rfl 0 (.int .i64 (nth B 0))).out⟩ | exact ⟨_, rfl, (hV.newboxF 2 #[.int .i64 (nth B 0)]).bcell 0 rfl 0 rfl, (hV.newboxF 2 #[.int .i64 (nth B 0)]).out⟩)
    · go_simp
      refine hK.out _ _ ⟨cell_al hHeld.1, cell_al hHeld.2.1, cell_al hHeld.2.2.1, cell_al hHeld.2.2.2.1, cell_al hHeld.2.2.2.2.1, cell_al hHeld.2.2.2.2.2.1, cell_al hHeld.2.2.2.2.2.2.1, cell_al hHeld.2.2.2.2.2.2.2⟩ (fun hHeld => ?_)
      clear hK K
      try simp only [Act.put, List.setIfInBounds_toArray, List.set_cons_zero, List.set_cons_succ]
      refine readyG (rs := [20]) (by kernel_rfl) (by simp) ?_
      refine AllG.last rfl (by kernel_rfl) (fun K hK => ?_) AllG.nil
      go_simp
      refine (KM.out _ (hSb.oldII HA.out)).mono ?_
      rintro e5 w5 ⟨vm, rfl, h5⟩
      have hV := hSb.call h5
      have rB := h5.rdI 0 rfl
      have z0 := rB.cell 0 hm
      have zx := rB.ixe 0 0 rfl hm
      have f0 := hV.bfree 0 rfl
      have f1 := hV.bcell 0 rfl 0 rfl
      refine hK.out _ _ ?_
      clear hK K
      try simp only [Act.put, List.setIfInBounds_toArray, List.set_cons_zero, List.set_cons_succ]
      refine anyG_lastP (i := 21) (v := ?_) rfl (by kernel_rfl) (fun _ _ _ h => h) (by rfl) ?_ ?_
      case refine_2 => (intro w'; go_simp; first | done | with_reducible rfl)
      try simp only [Act.put, List.setIfInBounds_toArray, List.set_cons_zero, List.set_cons_succ]
      refine readyG (rs := [22]) (by kernel_rfl) (by simp) ?_
      refine AllG.last rfl (by kernel_rfl) (fun K hK => ?_) AllG.nil
      go_simp
      refine hK.out _ _ ?_
      clear hK K
      try simp only [Act.put, List.setIfInBounds_toArray, List.set_cons_zero, List.set_cons_succ]
      refine readyG (rs := [24]) (by kernel_rfl) (by simp) ?_
      refine AllG.last rfl (by kernel_rfl) (fun K hK => ?_) AllG.nil
      go_simp
      refine hK.out _ _ ?_
      clear hK K
      try simp only [Act.put, List.setIfInBounds_toArray, List.set_cons_zero, List.set_cons_succ]
      refine doneG (by kernel_rfl) ?_ _
      refine NoPanic.normal ?_
      go_wp2_with fail
      go_meet
      case rel => exact ⟨_, rfl, (hV.bstore 0 rfl 0 (.int .i64 (nth B 0))).bcell 0 rfl 0 rfl, (hV.bstore 0 rfl 0 (.int .i64 (nth B 0))).out⟩
  case rest =>
    obtain ⟨gP, rfl, hP, hS⟩ := hcut
    have k0 := cell_keepS hS.below HK0.out
    have k1 := cell_keepS hS.below HD1.out
    have rA2 := hS.oldII HA.out
    have hcf := callFunc_go Tryz.func44 (by kernel_rfl) (by kernel_rfl)
    have hmf : ∀ (fn : Fn) (first cap : Array Value) (w : World), (Instr.makeFunc fn first cap).run Tryz.prog w = .ok (.func fn first cap) w := fun _ _ _ _ => rfl
    have KI := Lib.hid (IndexFunc_c 44 #[.pointer (some ⟨gD, 0, none⟩), .pointer (some ⟨gP, 0, none⟩)] (hasP A (nth B 0)) vk xs _ (hS.oldI HK.out) hcf (fun z W' hW' hz => by
      obtain ⟨k, rfl, hkA⟩ := Hk.out z hz
      have := mp2_c k gD gP a c us A (nth B 0) W' (cell_keepS hW'.below k1) (cell_keepS hW'.below hP) (rA2.keep hW'.below) hkA
      exact this))
    clear hP k1 rA2
    go_wp2_with fail
    refine KI.out.mono ?_
    clear KI
    rintro e w9 ⟨rfl, h9⟩
    have hS9 := hS.call0 h9
    go_wp2_with fail
    go_ret
    exact ⟨rfl, hS9⟩
theorem own3_snocS {B : Nat} {w0 w : World} {v v' : Value} {vs : List Value} {uss : List (List Value)} {X : List (List (List Int))} {u : Value} {us : List Value} {x : List (List Int)} {L2 : List Ent} (h1 : vs.length = X.length) (h2 : uss.length = X.length)
    (h : St B w0 w ((own3 v vs uss X ++ own2 u us x ++ L2).set 0 (row 26 v' (vs ++ [u])))) : St B w0 w (own3 v' (vs ++ [u]) (uss ++ [us]) (X ++ [x]) ++ L2) := by
  rw [own3, rows3_app u us x h1 h2]
  exact h
theorem bqX_succ (A C : List (List Int)) (n k : Nat) : bqX A C n (k + 1) = bqX A C n k ++ [bqS A C n (k + 2)] := by
  unfold bqX; rw [List.range_succ, List.map_append]; rfl
theorem bqX_len (A C : List (List Int)) (n k : Nat) : (bqX A C n k).length = k := by simp [bqX]
/-- what is asked of the classes -/
structure ClsW (n : Nat) (A C : List (List Int)) : Prop where
  len : C.length = n + 1
  row : ∀ a, a < n + 1 → (xat C a).length = n
  el : ∀ a, a < n + 1 → ∀ z ∈ xat C a, ∃ k : Nat, z = k ∧ k < A.length
  meet : ∀ x y, x < n → y < n → 0 < (meB (xat A (nth (xat C 0) x).toNat) (xat A (nth (xat C 1) y).toNat)).length
theorem ClsW.at' {n : Nat} {A C : List (List Int)} (h : ClsW n A C) {a x : Nat} (ha : a < n + 1) (hx : x < n) : ∃ k : Nat, nth (xat C a) x = k ∧ k < A.length := h.el a ha _ (nth_mem (by rw [h.row a ha]; exact hx))
set_option maxHeartbeats 16000000 in
set_option maxRecDepth 100000 in
theorem MolsOfPlane_c (n P : Nat) (v : Value) (us : List Value) (A : List (List Int)) (w : World) (hv : RII w v us A) (hok : dOk P A = true) (ho : ordP afV afK P A ≠ 0) (h2 : 2 ≤ n) (h5 : n ≤ 5) (hc : ClsW n A (pcK A A.length)) :
    Calls Tryz.prog 9 #[dv P v] w (IIIK w (bqX A (pcK A A.length) n (n - 1)) 0) := by
  obtain ⟨a, c, hsh⟩ := hv.1.sl.sh
  rw [hv.2.1] at hsh
  subst hsh
  have hS0 := (St.refl w).newboxF 28 #[.int .i64 P, .slice a A.length c]
  have b0 := hS0.bcell 0 rfl 0 rfl
  have b1 := hS0.bcell 0 rfl 1 rfl
  have KP := Lib.hid (ParallelClasses_c P (.slice a A.length c) us A _ (hS0.oldII hv) hok ho)
  have Hv := Lib.hid hv
  have hmf : ∀ (fn : Fn) (first cap : Array Value) (w : World), (Instr.makeFunc fn first cap).run Tryz.prog w = .ok (.func fn first cap) w := fun _ _ _ _ => rfl
  unfold dv at KP ⊢
  generalize pcK A A.length = C at *
  have HC := Lib.hid hc
  have hCl := hc.len
  clear hv hok ho hc
  go_enter Tryz.func9, Tryz.ntmps9
  go_wp2_with fail
  refine KP.out.mono ?_
  clear KP b0 b1
  rintro e w2 ⟨vC, uc, rfl, hlc, hh⟩
  rw [hCl] at hlc
  obtain ⟨ca, cc, hsh⟩ := (hh.rd 0 (e := 48) (v := vC) (us := uc) rfl).sl.sh
  rw [hlc] at hsh
  subst hsh
  have Hlc := Lib.hid hlc
  have HCl := Lib.hid hCl
  have hX3 := (hS0.call hh).newboxF 26 #[.slice ca (n + 1) cc]
  have hX4 : St w.heap.size w _ (box 26 w2.heap.size [.slice ca (n + 1) cc] :: box 28 w.heap.size [.int .i64 P, .slice a A.length c] :: own2 (.slice ca (n + 1) cc) uc C) := hX3
  have c0 := hX4.bcell 0 rfl 0 rfl
  have rC := (hX4.sub (L' := own2 (.slice ca (n + 1) cc) uc C) ((List.sublist_cons_self _ _).trans (List.sublist_cons_self _ _))).rii (by rw [hlc, hCl])
  have KZ := Lib.hid (szII_c _ uc C _ rC)
  rw [hCl] at KZ
  have hsl := rC.1
  have i1 := rslII_lo2 hsl 2 (by rw [hlc]; omega)
  rw [hlc] at i1
  rw [show ((2 : Nat) : Int) = (2 : Int) from rfl] at i1
  have hrs := (rsl_Rd hsl (lo := 2) (hi := n + 1) (by omega) (by rw [hlc]; omega)).sl
  have hrl : ((uc.take (n + 1)).drop 2).length = n - 1 := by simp [hlc]
  rw [hrl] at hrs
  have HRs := Lib.hid (fun W (h : Rd W (.slice ca (n + 1) cc) uc) k (hk : k < n - 1) => (show W.cell? (el (rsl (.slice ca (n + 1) cc) 2 (n + 1)) k) = some (vat uc (k + 2)) from by
    have := (rsl_Rd h (lo := 2) (hi := n + 1) (by omega) (by rw [Hlc.out]; omega)).cell (i := k) (by rw [hrl]; exact hk)
    rw [this]
    congr 1
    rw [← Hlc.out, List.take_length]
    unfold vat
    rw [List.getD_eq_getElem?_getD, List.getElem?_drop, List.getD_eq_getElem?_getD, Nat.add_comm]))
  have hlR := run_len_sl (P := Tryz.prog) hrs 26 3 Tryz.und_iss
  have hixR := run_ix_sl (P := Tryz.prog) hrs 26 Tryz.und_iss Tryz.size_is
  have w1 : IntKind.i64.wrap (((n + 1 : Nat) : Int) - 1) = (n : Int) := by rw [IntWalk.i64_in _ (by omega)]; omega
  obtain ⟨N1, hN1⟩ : ∃ N1, N1 = n + 1 := ⟨_, rfl⟩
  generalize rsl (.slice ca (n + 1) cc) 2 (n + 1) = vR at *
  clear hS0 hh hX3 rC hsl hrs hrl hlc hCl hN1
  go_wp2_with fail
  refine KZ.out.mono ?_
  clear KZ
  rintro e w3 ⟨rfl, hw⟩
  subst hw
  obtain ⟨L2, hL2⟩ : ∃ L2 : List Ent, L2 = box 26 w2.heap.size [.slice ca (n + 1) cc] :: box 28 w.heap.size [.int .i64 P, .slice a A.length c] :: own2 (.slice ca (n + 1) cc) uc C := ⟨_, rfl⟩
  have HL := Lib.hid (fun W L (h : St w.heap.size w W L) (hs : L2.Sublist L) => (show W.cell? ⟨w.heap.size, 1, none⟩ = some (.slice a A.length c) ∧ W.cell? ⟨w2.heap.size, 0, none⟩ = some (.slice ca (n + 1) cc) ∧ RII W (.slice ca (n + 1) cc) uc C from by
    have h2 := h.sub hs
    rw [hL2] at h2
    exact ⟨h2.bcell 1 rfl 1 rfl, h2.bcell 0 rfl 0 rfl, (h2.sub (L' := own2 (.slice ca (n + 1) cc) uc C) ((List.sublist_cons_self _ _).trans (List.sublist_cons_self _ _))).rii (by rw [Hlc.out, HCl.out])⟩))
  have hS5 : St w.heap.size w (w2.alloc (.cells #[.slice ca (n + 1) cc] 26)) (own3 (.slice none 0 0) [] [] (bqX A C n 0) ++ L2) := by
    rw [hL2]
    exact (hX4.newnil 26).perm List.perm_append_comm
  clear hX4 hL2
  generalize w2.heap.size = gC at *
  go_wp2_with fail
  clear c0
  go_loopw [24, 7, 9] (fun ki o _ wr => ∃ (k : Nat) (vs : List Value) (uss : List (List Value)), ki = .int .i64 k ∧ k ≤ n - 1 ∧ Hid (Fit3 vs uss (bqX A C n k)) ∧ St w.heap.size w wr (own3 o vs uss (bqX A C n k) ++ L2)) (fun ki _ _ _ => n - 1 - (intOf ki).toNat)
  case atStart => exact ⟨0, [], [], rfl, by omega, fitE, hS5⟩
  case round =>
    clear hS5
    obtain ⟨k, vs, uss, rfl, hk, hf, hS⟩ := hrel
    by_cases hkn : k < n - 1
    · have hki : (k : Int) < ((n - 1 : Nat) : Int) := by omega
      have xk : ∀ W, (Instr.indexAt 26 vR (.int .i64 (k : Int))).run Tryz.prog W = .ok (.pointer (some (el vR k))) W := fun W => by
        have := hixR .i64 (k : Int) (by omega) (by omega) W
        rwa [Int.toNat_natCast] at this
      obtain ⟨_, _, rC⟩ := HL.out _ _ hS (List.sublist_append_right _ _)
      have ck := HRs.out _ rC.1 k hkn
      have rk := rC.row (k + 2) (by rw [HCl.out]; omega)
      obtain ⟨ka, kc, hvk⟩ := rk.sl.sh
      rw [iv_len, HC.out.row (k + 2) (by omega)] at hvk
      rw [hvk] at ck rk
      have hB := hS.newboxF 48 #[.slice ka n kc]
      have hHL := HL.out _ _ hB ((List.sublist_append_right _ _).trans (List.sublist_cons_self _ _))
      have kb := hB.bcell 0 rfl 0 rfl
      have hcf := callFunc_go Tryz.func41 (by kernel_rfl) (by kernel_rfl)
      have rk2 := ((St.refl wr).newboxF 48 #[.slice ka n kc]).oldI rk
      have KF := Lib.hid (filledSquare_c 41 #[.pointer (some ⟨w.heap.size, 0, none⟩), .pointer (some ⟨gC, 0, none⟩), .pointer (some ⟨wr.heap.size, 0, none⟩)] (bqF A C (k + 2)) n _ (by omega) hcf (fun x y W' hW' hx hy => by
        obtain ⟨i, hi, hiA⟩ := HC.out.at' (a := 0) (by omega) hx
        obtain ⟨j, hj, hjA⟩ := HC.out.at' (a := 1) (by omega) hy
        have hm := HC.out.meet x y hx hy
        rw [hi, hj, Int.toNat_natCast, Int.toNat_natCast] at hm
        have := mp1_c x y i j w.heap.size gC wr.heap.size a ca c cc us uc A C (.slice ka n kc) (xat C (k + 2)) W' (cell_keepS hW'.below hHL.1) (by rw [HCl.out]; exact cell_keepS hW'.below hHL.2.1) (cell_keepS hW'.below kb) ((hB.oldII Hv.out).keep hW'.below) (by rw [HCl.out]; exact hHL.2.2.keep hW'.below) (rk2.keep hW'.below) (by rw [HCl.out]; omega) (by rw [HC.out.row 0 (by omega)]; exact hx) (by rw [HC.out.row 1 (by omega)]; exact hy) hi hj hiA hjA hm (HC.out.el (k + 2) (by omega))
        unfold bqF bqP
        rw [hi, hj, Int.toNat_natCast, Int.toNat_natCast]
        exact this))
      have Hst := Lib.hid (bqX_succ A C n k)
      have Hvl := Lib.hid (show vs.length < 4294967296 by rw [hf.out.1, bqX_len]; omega)
      clear rC rk rk2 hHL kb hvk hcf hS
      go_wp2_with fail
      refine KF.out.mono ?_
      clear KF ck
      rintro e w6 ⟨u, us6, rfl, hl6, h6⟩
      rw [sqF_len] at hl6
      obtain ⟨ua, ub, hsh⟩ := (h6.rd 0 (e := 48) (v := u) (us := us6) rfl).sl.sh
      rw [hl6] at hsh
      subst hsh
      have Hl6 := Lib.hid hl6
      have hS6 := ((hB.call h6).sub ((List.sublist_cons_self _ _).append (List.Sublist.refl _))).perm (L' := own3 u7 vs uss (bqX A C n k) ++ own2 (.slice ua n ub) us6 (bqS A C n (k + 2)) ++ L2) (by
        rw [List.append_assoc, List.append_assoc]
        exact (List.perm_append_comm).append_left _)
      clear hB h6 hl6
      go_wp2_with (at_builtin; refine appIII hS6 0 rfl Hvl.out rfl _ _ rfl rfl _ rfl (by first | rfl | simp [Act.eval, World.size_alloc]) ?_; intro v7 w7 hS7)
      have hS8 := own3_snocS hf.out.1 hf.out.2.1 hS7
      have hf8 := Lib.hid (hf.out.snoc (.slice ua n ub) (us := us6) (x := bqS A C n (k + 2)) (by rw [Hl6.out]; exact (sqF_len _ _).symm))
      rw [← Hst.out] at hS8 hf8
      clear hS6 hS7
      go_roundw
      case rel => exact ⟨k + 1, _, _, by go_num, by omega, hf8, hS8⟩
      case measure => simp [intOf]; omega
    · obtain rfl : k = n - 1 := by omega
      have hR := hS.sub (List.sublist_append_left _ _)
      clear hS
      go_wp2_with fail
      go_ret2
      exact ⟨_, vs, uss, rfl, hf.out, hR⟩
end Go.Proofs.YtdgmaodnkbgolaaGreat
end

section
/- Walks: orthogonal squares and lists of them, of the reference. Walks: valid lists of orthogonal squares, of the reference. -/
namespace Go.Proofs.YtdgmaodnkbgolaaGreat
set_option linter.unusedSimpArgs false
set_option linter.unusedVariables false
open Go.RowKit
attribute [local go_sem ↓] Go.wp_at_zero Go.wp_at_succ


/-- a square that is filled as far as place y of row x -/
structure FilQ (n : Nat) (f : Nat → Nat → Int) (x y : Nat) (S : List (List Int)) : Prop where
  sqr : Sqr n S
  at' : ∀ x' y', Bef n x y x' y' → at2 S x' y' = f x' y'
theorem FilQ.start {n : Nat} {f : Nat → Nat → Int} : FilQ n f 0 0 (sqF n fun _ _ => 0) := ⟨sqF_sqr _ _, fun _ _ h => by unfold Bef at h; omega⟩
theorem FilQ.step {n : Nat} {f : Nat → Nat → Int} {x y : Nat} {S : List (List Int)} (h : FilQ n f x y S) (hx : x < n) (hy : y < n) : FilQ n f x (y + 1) (putS S x y (f x y)) := by
  refine ⟨putS_sqr h.sqr hx _ _, fun x' y' hb => ?_⟩
  rw [at2_putS h.sqr hx hy]
  split
  · rename_i e; rw [← e.1, ← e.2]
  · rename_i e; exact h.at' x' y' (by unfold Bef at hb ⊢; omega)
theorem FilQ.next {n : Nat} {f : Nat → Nat → Int} {x : Nat} {S : List (List Int)} (h : FilQ n f x n S) : FilQ n f (x + 1) 0 S := ⟨h.sqr, fun x' y' hb => h.at' x' y' (by unfold Bef at hb ⊢; omega)⟩
theorem FilQ.done {n : Nat} {f : Nat → Nat → Int} {S : List (List Int)} (h : FilQ n f n 0 S) : S = sqF n f :=
  sq_ext h.sqr (sqF_sqr _ _) fun x y hx hy => by rw [h.at' x y ⟨hx, hy, .inl hx⟩, at2_sqF hx hy]
end Go.Proofs.YtdgmaodnkbgolaaGreat
end
