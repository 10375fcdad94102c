/- The texts of this claim, run 12: Pa3 PPf PCyp Cy1 Cy2 Tr19. -/
import Derived.Test.YtegmjlblehjccaaGreatK5
import Derived.Test.YtegmjlblehjccaaGreatK8
import Derived.Test.YtegmjlblehjccaaGreatK9
import Derived.Test.YtegmjlblehjccaaGreatK10
import Derived.Test.YtegmjlblehjccaaGreatK11

section
/- Walks: the list of quadrilaterals, and the program's switching of one. -/
namespace Go.Proofs.YtegmjlblehjccaaGreat
set_option linter.unusedSimpArgs false
set_option linter.unusedVariables false
open Go.RowKit
attribute [local go_sem ↓] Go.wp_at_zero Go.wp_at_succ

def MakesPaC (w : World) (A : List (List Int)) (e : Ending) (w' : World) : Prop := ∃ v us R, e = .returned (.tuple #[v, .int .i64 0]) ∧ RII w' v us R ∧ (∀ q, q ∈ R ↔ IsPas A q) ∧ R.length ≤ 40000 ∧ St w.heap.size w w' []
set_option maxHeartbeats 4000000 in
set_option maxRecDepth 100000 in
theorem PaschsOf_c (P : Nat) (vd : Value) (ud : List Value) (A : List (List Int)) (w : World) (hd : RII w vd ud A) (hA : TS P A) :
    Calls Tryz.prog 8 #[dv P vd] w (MakesPaC w A) := by
  obtain ⟨ad, cd, hsh⟩ := hd.1.sl.sh
  rw [hd.2.1] at hsh
  subst hsh
  have hS0 := (St.refl w).newboxF 26 #[.int .i64 P, .slice ad A.length cd]
  have b0 := hS0.bcell 0 rfl 0 rfl
  have b1 := hS0.bcell 0 rfl 1 rfl
  have K1 := Lib.hid (fun W (h : RII W (.slice ad A.length cd) ud A) => IsTripleSystem_c P (.slice ad A.length cd) ud A W h hA)
  have K2 := Lib.hid (fun W (h : RII W (.slice ad A.length cd) ud A) => paschsOf_c P (.slice ad A.length cd) ud A W h hA)
  have Hd := Lib.hid hd
  unfold dv at K1 K2 ⊢
  clear hA hd
  go_enter Tryz.func8, Tryz.ntmps8
  go_wp2_with fail
  refine (K1.out _ (hS0.oldII Hd.out)).mono ?_
  rintro e w1 ⟨rfl, h1⟩
  have hS1 := hS0.call0 h1
  clear h1 hS0 K1 b0 b1
  have b0 := hS1.bcell 0 rfl 0 rfl
  have b1 := hS1.bcell 0 rfl 1 rfl
  go_wp2_with fail
  refine (K2.out _ (hS1.oldII Hd.out)).mono ?_
  rintro e w2 ⟨v, us, R, rfl, r, hm, hl, h2⟩
  have HR := Lib.hid (And.intro r (And.intro hm hl))
  have hS2 := hS1.call0 h2
  clear r hm hl h2 hS1 b0 b1
  go_wp2_with fail
  go_ret2
  exact ⟨v, us, R, rfl, HR.out.1, HR.out.2.1, HR.out.2.2, hS2.out⟩
/-! ### a list among lists -/
set_option maxHeartbeats 2000000 in
set_option maxRecDepth 100000 in
theorem hasListP1_c (v u : Value) (xs ys : List Int) (g : Nat) (w : World) (hv : RdI w v xs) (hu : RdI w u ys) (hb : w.cell? ⟨g, 0, none⟩ = some u) :
    Calls Tryz.prog 105 #[v, .pointer (some ⟨g, 0, none⟩)] w (GivesB w (decide (xs = ys))) := by
  have KE := Lib.hid (Equal_c v u xs ys w hv hu)
  go_enter Tryz.func105, Tryz.ntmps105
  go_wp2_with (go_at_call 89; refine KE.out.mono ?_; rintro e w2 ⟨rfl, h2⟩)
  go_ret
  exact ⟨rfl, h2⟩
theorem anyR_memP (xs : List Int) (A : List (List Int)) : anyR (fun l => decide (l = xs)) A = decide (xs ∈ A) := by
  unfold anyR
  rw [Bool.eq_iff_iff, List.any_eq_true, decide_eq_true_iff]
  constructor
  · rintro ⟨x, hx, e⟩; rwa [← of_decide_eq_true e]
  · intro h; exact ⟨xs, h, by simp⟩
set_option maxHeartbeats 2000000 in
set_option maxRecDepth 100000 in
theorem hasListP_c (v u : Value) (us : List Value) (A : List (List Int)) (xs : List Int) (w : World) (hv : RII w v us A) (hu : RdI w u xs) :
    Calls Tryz.prog 39 #[v, u] w (GivesB w (decide (xs ∈ A))) := by
  have hS1 := (St.refl w).newboxF 30 #[u]
  have hcf := callFunc_go Tryz.func105 (by kernel_rfl) (by kernel_rfl)
  have hmf : ∀ (fn : Fn) (first cap : Array Value) (w : World), (Instr.makeFunc fn first cap).run Tryz.prog w = .ok (.func fn first cap) w := fun _ _ _ _ => rfl
  have hcall := Lib.hid (ContainsFuncR_c 105 #[.pointer (some ⟨w.heap.size, 0, none⟩)] (fun l => decide (l = xs)) v us A _ (hS1.oldII hv) hcf (fun j W hW hj => hasListP1_c (vat us j) u (xat A j) xs w.heap.size W ((hW.oldII (hS1.oldII hv)).row j hj) (hW.oldI (hS1.oldI hu)) (by
    rw [hW.below.cell (World.block_lt_of_cell? _ _ (hS1.bcell 0 rfl 0 rfl))]; exact hS1.bcell 0 rfl 0 rfl)))
  rw [anyR_memP] at hcall
  obtain ⟨ua, uc, hux⟩ := hu.sl.sh
  subst hux
  clear hcf
  go_enter Tryz.func39, Tryz.ntmps39
  go_wp2_with fail
  refine hcall.out.mono ?_
  rintro e w1 ⟨rfl, h1⟩
  have hS2 := hS1.call0 h1
  go_wp2_with fail
  go_ret
  exact ⟨rfl, hS2.out⟩
set_option maxHeartbeats 32000000 in
set_option maxRecDepth 100000 in
theorem SwitchPasch_c (P : Nat) (vd vq : Value) (ud : List Value) (A : List (List Int)) (q : List Int) (w : World) {i j k l a b c d e f : Nat} (hd : RII w vd ud A) (hq : RdI w vq q) (hA : TS P A) (hQ : Pas A q i j k l a b c d e f) (ha : (a : Int) = nth (xat A (nth q 0).toNat) 0) :
    Calls Tryz.prog 12 #[dv P vd, vq] w (MakesD w P (srtL (swQ A q a f)) 0) := by
  obtain ⟨ad, cd, hsh⟩ := hd.1.sl.sh
  rw [hd.2.1] at hsh
  subst hsh
  have hAl := (dOk_t hA.ok).len
  have hP := hA.p32
  have hq4 := hQ.ql
  have haP := hA.lt (xat_mem hQ.li) hQ.b1.m1
  have hfP := hA.lt (xat_mem hQ.lk) hQ.b3.m1
  have hS0 := ((St.refl w).newboxF 26 #[.int .i64 P, .slice ad A.length cd]).newboxF 26 #[.int .i64 0, .slice none 0 0]
  simp only [World.size_alloc] at hS0
  obtain ⟨LB, hLB⟩ : ∃ LB, LB = [box 26 (w.heap.size + 1) [.int .i64 0, .slice none 0 0], box 26 w.heap.size [.int .i64 P, .slice ad A.length cd]] := ⟨_, rfl⟩
  have HLB := Lib.hid hLB
  have hixD := hd.ixe
  have hlnq := hq.len
  have hixq := hq.ixe
  rw [hq4] at hlnq
  have Hqi := Lib.hid (fun t (ht : t < 4) => hQ.qi ht)
  have Hbt := Lib.hid (fun W X (h : St w.heap.size w W (X ++ LB)) => (show BoxD W w.heap.size P (.slice ad A.length cd) from by
    have h' := (h.sub (List.sublist_append_right _ _))
    rw [hLB] at h'
    exact ⟨h'.bcell 1 rfl 0 rfl, h'.bcell 1 rfl 1 rfl⟩))
  have K1 := Lib.hid (fun W (h : RII W (.slice ad A.length cd) ud A) => IsTripleSystem_c P (.slice ad A.length cd) ud A W h hA)
  have K2 := Lib.hid (fun W (h : RII W (.slice ad A.length cd) ud A) => paschsOf_c P (.slice ad A.length cd) ud A W h hA)
  have K3 := Lib.hid (fun W v us R (h : RII W v us R) (h2 : RdI W vq q) => hasListP_c v vq us R q W h h2)
  have Hip := Lib.hid (show IsPas A q from ⟨_, _, _, _, _, _, _, _, _, _, hQ⟩)
  have Hun := Lib.hid (fun t (ht : t < 4) => And.intro (hQ.unS hA t (by omega)).1 (And.intro (hQ.wtS hA a t (by omega)).1 (hQ.blk hA ht)))
  have Hop := Lib.hid (hQ.opp hA)
  have Hset : Hid (IsSet (unQ A q 4) ∧ IsSet (wtQ A q a 4)) := Lib.hid ⟨(hQ.unS hA 4 (by omega)).1, (hQ.wtS hA a 4 (by omega)).1⟩
  have Hbk := Lib.hid (hQ.bk4 hA)
  have Hbt2 := Lib.hid (fun t (ht : t < 4) (m : Nat) (hm : nth q t = (m : Int)) (hmA : m < A.length) => hQ.bkt a f ht hm hmA)
  have Hin := Lib.hid (fun m (hm : m < A.length) => (dOk_t hA.ok).inc _ (xat_mem hm))
  have H3 := Lib.hid (fun m (hm : m < A.length) => hA.three _ (xat_mem hm))
  have hne : a ≠ f := hQ.nd.af
  have Himg := Lib.hid (fun m (hm : m < A.length) => imL_trp (Hin.out m hm) hP haP hfP hne)
  have Hd := Lib.hid hd
  have Hq := Lib.hid hq
  have hul := Lib.hid hd.2.1
  obtain ⟨m0, hm0, hm0A, _⟩ := hQ.qi (t := 0) (by omega)
  have hx0 := hixq 0 0 rfl (by omega)
  have hxm0 := hixD (m0 : Int) m0 rfl hm0A
  have hx00 := (hd.row m0 hm0A).ixe 0 0 rfl (by rw [hA.three _ (xat_mem hm0A)]; omega)
  rw [hm0, Int.toNat_natCast] at ha
  have Hc0 := Lib.hid (fun W X (h : St w.heap.size w W (X ++ LB)) => (show W.cell? ⟨w.heap.size, 1, none⟩ = some (.slice ad A.length cd) ∧ W.cell? (el vq 0) = some (.int .i64 m0) ∧ W.cell? (el (.slice ad A.length cd) m0) = some (vat ud m0) ∧ W.cell? (el (vat ud m0) 0) = some (.int .i64 a) from by
    have hr := h.oldII hd
    have c1 := (h.oldI hq).cell 0 (by omega)
    have c2 := (hr.row m0 hm0A).cell 0 (by rw [hA.three _ (xat_mem hm0A)]; omega)
    rw [hm0] at c1
    rw [← ha] at c2
    exact ⟨(Hbt.out W X h).2, c1, hr.cell m0 hm0A, c2⟩))
  rw [← hLB] at hS0
  obtain ⟨z1, z2⟩ := Hbt.out _ [] hS0
  have HaQ := Lib.hid (And.intro hA hQ)
  clear hA hQ hd hq hm0 ha hLB hm0A
  unfold dv at K1 K2 ⊢
  go_enter Tryz.func12, Tryz.ntmps12
  go_wp2_with fail
  refine (K1.out _ (hS0.oldII Hd.out)).mono ?_
  rintro e1 w1 ⟨rfl, h1⟩
  have hS1 := hS0.call0 h1
  clear h1 hS0 K1 z1 z2
  obtain ⟨z1, z2⟩ := Hbt.out _ [] hS1
  go_wp2_with fail
  refine (K2.out _ (hS1.oldII Hd.out)).mono ?_
  rintro e2 w2 ⟨v2, us2, R, rfl, r, hm, hl, h2⟩
  have hS2 := hS1.call0 h2
  have K3 := Lib.hid (K3.out w2 v2 us2 R r (hS2.oldI Hq.out))
  rw [decide_eq_true ((hm q).2 Hip.out)] at K3
  clear h2 hS1 K2 z1 z2 r hm hl Hip
  go_wp2_with fail
  refine K3.out.mono ?_
  rintro e3 w3 ⟨rfl, h3⟩
  have hS3 := hS2.call0 h3
  clear h3 hS2 K3
  have g1 := fun s : SS w.heap.size w LB => (Hc0.out s.w [] s.st).1
  have g2 := fun s : SS w.heap.size w LB => (Hc0.out s.w [] s.st).2.1
  have g3 := fun s : SS w.heap.size w LB => (Hc0.out s.w [] s.st).2.2.1
  have g4 := fun s : SS w.heap.size w LB => (Hc0.out s.w [] s.st).2.2.2
  go_wp2_with fail
  have hne : Nonempty (SS _ _ _) := ⟨⟨_, hS3⟩⟩
  refine wp_region_st (by kernel_rfl) (by kernel_rfl) hS3 ?_
  repeat (go_big_quiet_step (fail))
  refine wpQuiet_nil ?_
  rintro _ ⟨s2, rfl⟩
  have hS4 := s2.st
  generalize s2.w = w4 at hS4 ⊢
  clear hS3 g1 g2 g3 g4
  have hS5 := ((hS4.newnil 2).newnil 2).perm (L' := row 2 (.slice none 0 0) (iv (unQ A q 0)) :: row 2 (.slice none 0 0) (iv (wtQ A q a 0)) :: LB) (by
    rw [List.append_assoc]; exact List.perm_append_comm)
  clear hS4
  go_wp2_with fail
  go_loopw [38, 7, 8, 10, 11] (fun ti vw va _ _ wr => ∃ (t : Nat), ti = .int .i64 t ∧ t ≤ 4 ∧ St w.heap.size w wr (row 2 va (iv (unQ A q t)) :: row 2 vw (iv (wtQ A q a t)) :: LB)) (fun ti _ _ _ _ _ => 4 - (intOf ti).toNat)
  case atStart => exact ⟨0, rfl, by omega, hS5⟩
  case round =>
    clear hS5
    obtain ⟨t, rfl, ht, hS⟩ := hrel
    by_cases ht4 : t < 4
    · have hti : (t : Int) < 4 := by omega
      obtain ⟨m, hm, hmA, _⟩ := Hqi.out t ht4
      have xt := hixq (t : Int) t rfl (by omega)
      have ct := (hS.oldI Hq.out).cell t (by omega)
      rw [hm] at ct
      have xm := hixD (m : Int) m rfl hmA
      have cm := (hS.oldII Hd.out).cell m hmA
      have z2 := (Hbt.out _ [_, _] hS).2
      obtain ⟨s1, s2, s3⟩ := Hun.out t ht4
      rw [hm, Int.toNat_natCast] at s3
      have KU := Lib.hid (UnionSets_c _ (vat ud m) _ (xat A m) wr (hS.rdI 0 rfl) ((hS.oldII Hd.out).row m hmA))
      rw [ifSets_yes s1 s3, show uni (unQ A q t) (xat A m) = unQ A q (t + 1) by rw [unQ, hm, Int.toNat_natCast]] at KU
      have KC := Lib.hid (fun W (h : RdI W (vat ud m) (xat A m)) => ContainsS_c (vat ud m) (xat A m) a W h)
      have KW := Lib.hid (fun W (h1 : RdI W u7 (wtQ A q a t)) (h2 : RdI W (vat ud m) (xat A m)) => UnionSets_c u7 (vat ud m) (wtQ A q a t) (xat A m) W h1 h2)
      rw [ifSets_yes s2 s3] at KW
      have Hw : Hid (wtQ A q a (t + 1) = if (a : Int) ∈ xat A m then uni (wtQ A q a t) (xat A m) else wtQ A q a t) := Lib.hid (by rw [wtQ, hm, Int.toNat_natCast])
      have hmA' := Lib.hid hmA
      clear hm s1 s2 s3 hmA
      go_wp2_with fail
      refine KU.out.mono ?_
      clear KU
      rintro e6 w6 ⟨va, rfl, h6⟩
      have hS6 := (hS.sub (List.sublist_cons_self _ _)).call h6
      clear hS h6 ct cm z2
      have KC2 := Lib.hid (KC.out _ ((hS6.oldII Hd.out).row m hmA'.out))
      by_cases hab : (a : Int) ∈ xat A m
      · rw [decide_eq_true hab] at KC2
        rw [if_pos hab] at Hw
        clear hab KC
        go_wp2_with fail
        refine KC2.out.mono ?_
        rintro e7 w7 ⟨rfl, hw7⟩
        subst hw7
        have KW2 := Lib.hid (KW.out _ (hS6.rdI 0 rfl) ((hS6.oldII Hd.out).row m hmA'.out))
        clear KC2 KW
        go_wp2_with fail
        refine KW2.out.mono ?_
        clear KW2
        rintro e8 w8 ⟨vw, rfl, h8⟩
        rw [← Hw.out] at h8
        have hS8 := ((hS6.sub (List.sublist_cons_self _ _)).call h8).perm (L' := row 2 va (iv (unQ A q (t + 1))) :: row 2 vw (iv (wtQ A q a (t + 1))) :: LB) (by
          show ((LB ++ [_]) ++ [_]).Perm _
          rw [List.append_assoc]; exact List.perm_append_comm)
        clear h8 hS6
        go_wp2_with fail
        go_roundw
        case rel => exact ⟨t + 1, by go_num, by omega, hS8⟩
        case measure => simp [intOf]; omega
      · rw [decide_eq_false hab] at KC2
        rw [if_neg hab] at Hw
        have hS8 := hS6.perm (L' := row 2 va (iv (unQ A q (t + 1))) :: row 2 u7 (iv (wtQ A q a (t + 1))) :: LB) (by
          rw [Hw.out]; exact List.perm_append_comm)
        clear hab KC KW hS6
        go_wp2_with fail
        refine KC2.out.mono ?_
        rintro e7 w7 ⟨rfl, hw7⟩
        subst hw7
        clear KC2
        go_wp2_with fail
        go_roundw
        case rel => exact ⟨t + 1, by go_num, by omega, hS8⟩
        case measure => simp [intOf]; omega
    · obtain rfl : t = 4 := by omega
      have KM := Lib.hid (MinusSets_c _ _ _ _ wr (hS.rdI 0 rfl) (hS.rdI 1 rfl))
      rw [show ifSets (unQ A q 4) (wtQ A q a 4) (min' (unQ A q 4) (wtQ A q a 4)) = [(f : Int)] from Hop.out] at KM
      have hSb := hS.sub (L' := LB) ((List.sublist_cons_self _ _).trans (List.sublist_cons_self _ _))
      clear hS
      rw [show ((4 : Nat) : Int) = (4 : Int) from rfl]
      go_wp2_with fail
      refine KM.out.mono ?_
      clear KM
      rintro e6 w6 ⟨vo, rfl, h6⟩
      have xo := (h6.rdI 0 rfl).ixe 0 0 rfl (by simp)
      have co := (h6.rdI 0 rfl).cell 0 (by simp)
      rw [show nth [(f : Int)] 0 = (f : Int) from rfl] at co
      have hS6 := hSb.call0 h6.out
      have KI := Lib.hid (ident_c P w6 (by omega))
      obtain ⟨z1, z2⟩ := Hbt.out _ [] hS6
      clear hSb h6
      go_wp2_with fail
      refine KI.out.mono ?_
      clear KI
      rintro e7 w7 ⟨vp, rfl, h7⟩
      have hS7 := (hS6.call h7).perm (L' := row 2 vp (iv (iot P)) :: LB) List.perm_append_comm
      have xa := (h7.rdI 0 rfl).ixe (a : Int) a rfl (by rw [iot_len]; exact haP)
      have xf := (h7.rdI 0 rfl).ixe (f : Int) f rfl (by rw [iot_len]; exact hfP)
      clear hS6 h7 z1 z2 xo co
      have ha1 := Lib.hid (show a < (iot P).length by rw [iot_len]; exact haP)
      have hf1 := Lib.hid (show f < ((iot P).set a (f : Int)).length by rw [List.length_set, iot_len]; exact hfP)
      go_wp2_with (first
        | (refine stoI hS8 0 rfl f hf1.out rfl _ _ rfl rfl a rfl ?_; intro w9 hS9; simp only [List.set_cons_zero] at hS9; have z2 := (Hbt.out _ [_] hS9).2)
        | (refine stoI hS7 0 rfl a ha1.out rfl _ _ rfl rfl f rfl ?_; intro w8 hS8; simp only [List.set_cons_zero] at hS8))
      rw [show ((iot P).set a (f : Int)).set f (a : Int) = trpP P a f from rfl] at hS9
      have KCp := Lib.hid (copyLists_c (.slice ad A.length cd) ud A w9 (hS9.oldII Hd.out) (by omega) (fun xs hx => by
        obtain ⟨m, hm, rfl⟩ := List.getElem_of_mem hx
        rw [← xat_eq hm, H3.out m hm]; omega))
      clear hS7 hS8 xa xf
      refine KCp.out.mono ?_
      clear KCp
      rintro e10 w10 ⟨vb, ub, rfl, hlb, h10⟩
      have ixb := (h10.rii hlb).ixe
      have hvb := Lib.hid (h10.rd 0 (e := 30) (v := vb) (us := ub) rfl).sl
      obtain ⟨LB2, hLB2⟩ : ∃ LB2, LB2 = row 2 vp (iv (trpP P a f)) :: LB := ⟨_, rfl⟩
      have hS10 := (hS9.call h10).perm (L' := row 30 vb ub :: (rowsI ub A ++ LB2)) (by
        rw [hLB2]; exact List.perm_append_comm)
      have Hvp := Lib.hid (fun W X (h : St w.heap.size w W (X ++ LB2)) => (show RdI W vp (trpP P a f) ∧ St w.heap.size w W (X ++ LB) from by
        rw [hLB2] at h
        exact ⟨(h.sub (List.sublist_append_right _ _)).rdI 0 rfl, h.sub ((List.sublist_cons_self _ _).append_left X)⟩))
      have HI0 : Hid (ub.length = A.length ∧ ∀ W, St w.heap.size w W (rowsI ub A) → ∀ m, m < A.length → RdI W (vat ub m) (xat (bkQ A q a f 0) m)) := Lib.hid ⟨hlb, fun W h m hm => h.rdI m (e := 2) (rowsI_get hlb hm)⟩
      have HLB2 := Lib.hid hLB2
      clear hS9 h10 hlb hLB2 z2
      go_wp2_with fail
      go_loopw [78, 16] (fun ti _ wr => ∃ (t : Nat) (ub : List Value) (N : List Ent), ti = .int .i64 t ∧ t ≤ 4 ∧ Hid (ub.length = A.length ∧ ∀ W, St w.heap.size w W N → ∀ m, m < A.length → RdI W (vat ub m) (xat (bkQ A q a f t) m)) ∧ St w.heap.size w wr (row 30 vb ub :: (N ++ LB2))) (fun ti _ _ => 4 - (intOf ti).toNat)
      case atStart => exact ⟨0, ub, _, rfl, by omega, HI0, hS10⟩
      case round =>
        clear hS10 HI0
        obtain ⟨t, ub, N, rfl, ht, hI, hS⟩ := hrel
        by_cases ht4 : t < 4
        · have hti : (t : Int) < 4 := by omega
          obtain ⟨m, hm, hmA, _⟩ := Hqi.out t ht4
          have xt := hixq (t : Int) t rfl (by omega)
          have ct := (hS.oldI Hq.out).cell t (by omega)
          rw [hm] at ct
          have xm := ixb (m : Int) m rfl hmA
          have cm := (hS.rd 0 (e := 30) (v := vb) (us := ub) rfl).cell (i := m) (by rw [hI.out.1]; exact hmA)
          rw [show ub.getD m undef = vat ub m from rfl] at cm
          have hrm := hI.out.2 wr (hS.sub ((List.sublist_append_left N LB2).trans (List.sublist_cons_self _ _))) m hmA
          rw [Hbt2.out t ht4 m hm hmA] at hrm
          have KIm := Lib.hid (image_c vp (vat ub m) (trpP P a f) (xat A m) wr (Hvp.out _ (row 30 vb ub :: N) hS).1 hrm (by rw [trpP_len]; exact Hin.out m hmA) (by rw [trpP_len]; omega))
          rw [Himg.out m hmA] at KIm
          have Hbs : Hid (bkQ A q a f (t + 1) = (bkQ A q a f t).set m (swB a f (xat A m))) := Lib.hid (by rw [bkQ, hm, Int.toNat_natCast])
          have hml := Lib.hid (show m < ub.length by rw [hI.out.1]; exact hmA)
          clear hm hrm hmA
          go_wp2_with fail
          refine KIm.out.mono ?_
          clear KIm
          rintro e11 w11 ⟨vi, rfl, h11⟩
          have hvi := (h11.rdI 0 rfl).sl
          have Hvi := Lib.hid (And.intro hvi.cells hvi.one)
          have hS11 := (hS.call h11).perm (L' := row 30 vb ub :: ((N ++ [row 2 vi (iv (swB a f (xat A m)))]) ++ LB2)) (by
            simp only [List.cons_append, List.append_assoc]
            exact List.Perm.cons _ (List.Perm.append_left _ List.perm_append_comm))
          clear hS h11 ct cm hvi
          go_wp2_with (refine stoII hS11 0 rfl m hml.out rfl _ _ rfl rfl vi Hvi.out.1 Hvi.out.2 rfl ?_; intro w12 hS12)
          simp only [List.set_cons_zero] at hS12
          go_roundw
          case rel => exact ⟨t + 1, _, _, by go_num, by omega, Lib.hid ⟨by rw [List.length_set]; exact hI.out.1, fun W h n hn => by
            rw [Hbs.out]
            have e1 : xat ((bkQ A q a f t).set m (swB a f (xat A m))) n = if m = n then swB a f (xat A m) else xat (bkQ A q a f t) n := by
              unfold xat
              rw [List.getD_eq_getElem?_getD, List.getElem?_set]
              by_cases e : m = n
              · subst e; rw [if_pos rfl, if_pos (by rw [bkQ_len]; exact hn), if_pos rfl]; rfl
              · rw [if_neg e, if_neg e, List.getD_eq_getElem?_getD]
            have e2 : vat (ub.set m vi) n = if m = n then vi else vat ub n := by
              unfold vat
              rw [List.getD_eq_getElem?_getD, List.getElem?_set]
              by_cases e : m = n
              · subst e; rw [if_pos rfl, if_pos hml.out, if_pos rfl]; rfl
              · rw [if_neg e, if_neg e, List.getD_eq_getElem?_getD]
            rw [e1, e2]
            by_cases e : m = n
            · rw [if_pos e, if_pos e]; exact (h.sub (List.sublist_append_right _ _)).rdI 0 rfl
            · rw [if_neg e, if_neg e]; exact hI.out.2 W (h.sub (List.sublist_append_left _ _)) n hn⟩, hS12⟩
          case measure => simp [intOf]; omega
        · obtain rfl : t = 4 := by omega
          rw [Hbk.out] at hI
          have hlS : (swQ A q a f).length = A.length := by unfold swQ; rw [List.length_map]
          have hRb : RII wr vb ub (swQ A q a f) := ⟨hS.rd 0 rfl, by rw [hlS]; exact hI.out.1, fun n hn => hI.out.2 wr (hS.sub ((List.sublist_append_left N LB2).trans (List.sublist_cons_self _ _))) n (by rw [← hlS]; exact hn)⟩
          have KS := Lib.hid (sorted_c P vb ub (swQ A q a f) wr hRb (by rw [hlS]; omega) (fun xs hx => by
            obtain ⟨B, hB, rfl⟩ := List.mem_map.1 hx
            obtain ⟨m, hm, rfl⟩ := List.getElem_of_mem hB
            by_cases hc : A[m] ∈ qBl A q
            · rw [if_pos hc]; have := upF_len (fun z => decide (exP a f z ∈ A[m])) 32 0; unfold swB; omega
            · rw [if_neg hc, ← xat_eq hm, H3.out m hm]; omega))
          have hSL := (Hvp.out wr (row 30 vb ub :: N) hS).2.sub (L' := LB) (List.sublist_append_right _ _)
          rw [HLB.out] at hSL
          have z1 := hSL.bcell 1 rfl 0 rfl
          have HlS := Lib.hid (show (srtL (swQ A q a f)).length = A.length by rw [srtL_len, hlS])
          rw [show ((4 : Nat) : Int) = (4 : Int) from rfl]
          clear hS hRb hI hlS
          go_wp2_with fail
          refine KS.out.mono ?_
          clear KS
          rintro e13 w13 ⟨v13, us13, rfl, hl13, h13⟩
          obtain ⟨a13, c13, hv13⟩ := (h13.rd 0 (e := 30) (v := v13) (us := us13) rfl).sl.sh
          rw [hl13, HlS.out] at hv13
          subst hv13
          have hB := hSL.call h13
          have e0 := hB.bcell 0 rfl 0 rfl
          have e1 := hB.bcell 0 rfl 1 rfl
          have f0 := hB.bfree 0 rfl
          have h6 := (hB.bstore 0 rfl 0 (.int .i64 P)).bstore 0 rfl 1 (.slice a13 A.length c13)
          have d0 := h6.bcell 0 rfl 0 rfl
          have d1 := h6.bcell 0 rfl 1 rfl
          unfold dv
          clear z1 hSL hB h13
          go_wp2_with fail
          refine bodyPost_ret (v := .tuple #[.agg #[.int .i64 P, .slice a13 A.length c13], .int .i64 0]) (by simp [results, Tryz.results12, go_sem, d0, d1]) rfl ?_
          exact ⟨_, us13, rfl, hl13, h6.sub ((List.sublist_cons_self _ _).trans (List.sublist_cons_self _ _))⟩
end Go.Proofs.YtegmjlblehjccaaGreat
end

section
/- Plain: switching leads to another triple system, and back. -/
namespace Go.Proofs.YtegmjlblehjccaaGreat
set_option linter.unusedSimpArgs false
set_option linter.unusedVariables false
open Go
section
variable {P : Nat} {A : List (List Int)} {q : List Int} {i j k l a b c d e f : Nat}
theorem Pas.other (hT : TS P A) (h : Pas A q i j k l a b c d e f) : srtL (swQ A q a f) ≠ A := fun he => by
  have m1 := xat_mem h.li
  have hin : ∀ t ∈ xat A i, 0 ≤ t ∧ t < (32 : Int) := fun t ht => by have := incB_gt (hT.in32 m1) t ht; omega
  have hP := hT.p32
  have hf := hT.lt (xat_mem h.lk) h.b3.m1
  have hs := h.b1.sw (f := f) hin (by omega) h.nd.ab h.nd.ac h.nd.bf.symm h.nd.cf.symm
  have hm : swB a f (xat A i) ∈ srtL (swQ A q a f) := (srtL_perm _).mem_iff.2 (List.mem_map.2 ⟨xat A i, m1, if_pos ((h.qbm _).2 (.inl rfl))⟩)
  rw [he] at hm
  have hu := hT.uniq hm m1 h.nd.bc hs.m2 hs.m3 h.b1.m2 h.b1.m3
  have := hs.m1
  rw [hu, h.b1 f] at this
  have g1 := h.nd.af; have g2 := h.nd.bf; have g3 := h.nd.cf
  omega
theorem Pas.fu (h : Pas A q i j k l a b c d e f) {i' j' k' l' b' c' d' e' f' : Nat} (h' : Pas A q i' j' k' l' a b' c' d' e' f') : f' = f := by
  have hm : (f' : Int) ∈ ptsL A q 4 := (h'.pmem f').2 (by simp)
  have e1 := h.apr hm
  have e2 := h'.apr hm
  rw [e1, decide_eq_true (rfl : (f' : Int) = f')] at e2
  have := of_decide_eq_true e2
  omega
theorem Pas.six (hT : TS P A) (h : Pas A q i j k l a b c d e f) : (ptsL A q 4).length = 6 := by
  have hp : (ptsL A q 4).Perm [(a : Int), (b : Int), (c : Int), (d : Int), (e : Int), (f : Int)] := by
    refine (List.perm_ext_iff_of_nodup ((incB_pw (h.pset hT 4 (Nat.le_refl _))).imp fun h => by omega) ?_).2 fun z => by rw [h.pmem z]; simp
    have g1 := h.nd.ab; have g2 := h.nd.ac; have g3 := h.nd.ad; have g4 := h.nd.ae; have g5 := h.nd.af; have g6 := h.nd.bc; have g7 := h.nd.bd; have g8 := h.nd.be; have g9 := h.nd.bf; have g10 := h.nd.cd; have g11 := h.nd.ce; have g12 := h.nd.cf; have g13 := h.nd.de; have g14 := h.nd.df; have g15 := h.nd.ef
    simp only [List.nodup_cons, List.mem_cons, List.not_mem_nil, or_false, not_or, not_false_eq_true, List.nodup_nil, and_true, Int.natCast_inj]
    exact ⟨⟨g1, g2, g3, g4, g5⟩, ⟨g6, g7, g8, g9⟩, ⟨g10, g11, g12⟩, ⟨g13, g14⟩, g15⟩
  rw [hp.length_eq]; rfl
/-- a quadrilateral whose switching leads to A -/
def BkP (A' A : List (List Int)) (q : List Int) : Prop := ∃ i j k l a b c d e f : Nat, Pas A' q i j k l a b c d e f ∧ (a : Int) = nth (xat A' (nth q 0).toNat) 0 ∧ srtL (swQ A' q a f) = A
theorem Pas.bkp {A' : List (List Int)} (h : Pas A' q i j k l a b c d e f) (ha : (a : Int) = nth (xat A' (nth q 0).toNat) 0) : BkP A' A q ↔ srtL (swQ A' q a f) = A := by
  constructor
  · rintro ⟨i', j', k', l', a', b', c', d', e', f', h', ha', he⟩
    obtain rfl : a = a' := by omega
    rw [h.fu h'] at he
    exact he
  · intro he; exact ⟨_, _, _, _, _, _, _, _, _, _, h, ha, he⟩
theorem Pas.some_back (hT : TS P A) (h : Pas A q i j k l a b c d e f) (hlo : a < b ∧ a < c ∧ a < d ∧ a < e ∧ a < f) : ∃ q', BkP (srtL (swQ A q a f)) A q' := by
  obtain ⟨q', i', j', k', l', h', ha, he⟩ := h.back hT hlo
  exact ⟨q', _, _, _, _, _, _, _, _, _, _, h', ha, he⟩
end
end Go.Proofs.YtegmjlblehjccaaGreat
end

section
/- Plain: cycles of a pair of points of a triple system. -/
namespace Go.Proofs.YtegmjlblehjccaaGreat
set_option linter.unusedSimpArgs false
set_option linter.unusedVariables false
open Go

section
variable {P : Nat} {A : List (List Int)} {u v : Nat}
/-- closed under the third points with a -/
def ClA (P : Nat) (A : List (List Int)) (a : Nat) (T : List Bool) : Prop := ∀ z, z < P → bat T z = true → bat T (thF A a z) = true
/-- the marks at the beginning of a round: both closed, with the three points of the block -/
structure CyB (P : Nat) (A : List (List Int)) (u v : Nat) (T : List Bool) : Prop where
  len : T.length = P
  cu : ClA P A u T
  cv : ClA P A v T
  mu : bat T u = true
  mv : bat T v = true
/-- the marks within a cycle that begins at x and stands at y -/
structure CyI (P : Nat) (A : List (List Int)) (u v x y k : Nat) (T : List Bool) : Prop where
  len : T.length = P
  xP : x < P
  yP : y < P
  cu : ClA P A u T
  mu : bat T u = true
  mv : bat T v = true
  bv : bat T (thF A v y) = true
  open' : ∀ z, z < P → bat T z = true → z ≠ x → z ≠ thF A v y → bat T (thF A v z) = true
  back : bat T y = true → y = x
  mx : bat T x = true
  one : k = 1 → y = thF A v (thF A u x)
theorem cnt_set {T : List Bool} {z : Nat} (hz : z < T.length) (h : bat T z = false) : (T.set z true).count true = T.count true + 1 := by
  induction T generalizing z with
  | nil => simp at hz
  | cons b T ih =>
    cases z with
    | zero =>
      have : b = false := h
      subst this
      simp
    | succ z =>
      have hz' : z < T.length := by simpa using hz
      rw [List.set_cons_succ, List.count_cons, List.count_cons, ih hz' h]; omega
theorem TS.ucl (hT : TS P A) {T : List Bool} (hu : u < P) (hc : ClA P A u T) {z : Nat} (hz : z < P) : bat T (thF A u z) = bat T z := by
  have h1 := hc z hz
  have h2 := hc (thF A u z) (hT.th_lt hu hz)
  rw [hT.th_back hu hz] at h2
  cases e1 : bat T z <;> cases e2 : bat T (thF A u z)
  · rfl
  · rw [e2] at h2; have := h2 rfl; rw [e1] at this; cases this
  · rw [e1] at h1; have := h1 rfl; rw [e2] at this; cases this
  · rfl
/-- the two third points of a point off the block differ -/
theorem TS.uv_ne (hT : TS P A) (hu : u < P) (hv : v < P) (huv : u ≠ v) {y : Nat} (hy : y < P) (h1 : y ≠ u) (h2 : y ≠ v) : thF A u y ≠ thF A v y := fun e => by
  obtain ⟨B, hB, b1, b2, b3, _, n1, n2⟩ := hT.th hu hy (fun q => h1 q.symm)
  obtain ⟨C, hC, c1, c2, c3, _, m1, m2⟩ := hT.th hv hy (fun q => h2 q.symm)
  rw [← e] at c3 m1 m2
  have hBC := hT.uniq hB hC (x := y) (y := thF A u y) (fun q => n2 q.symm) b2 b3 c2 c3
  subst hBC
  have e1 := hT.th_of hB b1 b2 c1 (fun q => h1 q.symm) huv h2
  exact m1 e1
theorem TS.v_fix (hT : TS P A) (hv : v < P) {z : Nat} (hz : z < P) (h : thF A v z = z) : z = v := by
  by_cases e : z = v
  · exact e
  · exact absurd h (hT.th_ne hv hz (fun q => e q.symm)).2
/-- the two marks of a step -/
def mk2 (A : List (List Int)) (u y : Nat) (T : List Bool) : List Bool := (T.set y true).set (thF A u y) true
theorem mk2_len (T : List Bool) (y : Nat) : (mk2 A u y T).length = T.length := by unfold mk2; rw [List.length_set, List.length_set]
theorem mk2_at (hT : TS P A) (hu : u < P) {T : List Bool} (hl : T.length = P) {y : Nat} (hy : y < P) (z : Nat) : bat (mk2 A u y T) z = true ↔ z = y ∨ z = thF A u y ∨ bat T z = true := by
  have h1 := hT.th_lt hu hy
  unfold mk2
  rw [bat_set (by rw [List.length_set]; omega), bat_set (by omega)]
  by_cases e1 : thF A u y = z
  · rw [if_pos e1]; simp [e1]
  · rw [if_neg e1]
    by_cases e2 : y = z
    · rw [if_pos e2]; simp [e2]
    · rw [if_neg e2]
      constructor
      · intro h; exact .inr (.inr h)
      · rintro (h | h | h)
        · exact absurd h.symm e2
        · exact absurd h.symm e1
        · exact h
theorem mk2_cnt (hT : TS P A) (hu : u < P) {T : List Bool} (hl : T.length = P) (hc : ClA P A u T) (mu : bat T u = true) {y : Nat} (hy : y < P) (h : bat T y = false) : (mk2 A u y T).count true = T.count true + 2 := by
  have h1 := hT.th_lt hu hy
  have hne : u ≠ y := fun e => by rw [e, h] at mu; cases mu
  have h2 := (hT.th_ne hu hy hne).2
  unfold mk2
  rw [cnt_set (by rw [List.length_set]; omega), cnt_set (by omega) h]
  rw [bat_set (by omega), if_neg (fun q => h2 q.symm), hT.ucl hu hc hy]
  exact h
theorem mk2_cu (hT : TS P A) (hu : u < P) {T : List Bool} (hl : T.length = P) (hc : ClA P A u T) {y : Nat} (hy : y < P) : ClA P A u (mk2 A u y T) := fun z hz h => by
  rw [mk2_at hT hu hl hy] at h ⊢
  rcases h with rfl | rfl | h
  · exact .inr (.inl rfl)
  · exact .inl (hT.th_back hu hy)
  · exact .inr (.inr (hc z hz h))
/-- the first step of a cycle -/
theorem CyB.first (hT : TS P A) (hu : u < P) (hv : v < P) (huv : u ≠ v) {T : List Bool} (h : CyB P A u v T) {x : Nat} (hx : x < P) (hn : bat T x = false) : CyI P A u v x (thF A v (thF A u x)) 1 (mk2 A u x T) := by
  have h1 := hT.th_lt hu hx
  have xu : x ≠ u := fun e => by rw [e, h.mu] at hn; cases hn
  have xv : x ≠ v := fun e => by rw [e, h.mv] at hn; cases hn
  have an : bat T (thF A u x) = false := by rw [hT.ucl hu h.cu hx]; exact hn
  refine ⟨by rw [mk2_len]; exact h.len, hx, hT.th_lt hv h1, mk2_cu hT hu h.len h.cu hx, (mk2_at hT hu h.len hx u).2 (.inr (.inr h.mu)), (mk2_at hT hu h.len hx v).2 (.inr (.inr h.mv)), ?_, ?_, ?_, (mk2_at hT hu h.len hx x).2 (.inl rfl), fun _ => rfl⟩
  · rw [hT.th_back hv h1]; exact (mk2_at hT hu h.len hx _).2 (.inr (.inl rfl))
  · intro z hz hm zx zt
    rw [hT.th_back hv h1] at zt
    rw [mk2_at hT hu h.len hx] at hm ⊢
    rcases hm with e | e | hm
    · exact absurd e zx
    · exact absurd e zt
    · exact .inr (.inr (h.cv z hz hm))
  · intro hm
    rw [mk2_at hT hu h.len hx] at hm
    rcases hm with e | e | hm
    · exact e
    · have := hT.v_fix hv h1 e
      rw [this, h.mv] at an; cases an
    · have := h.cv _ (hT.th_lt hv h1) hm
      rw [hT.th_back hv h1, an] at this; cases this
/-- a further step -/
theorem CyI.step (hT : TS P A) (hu : u < P) (hv : v < P) (huv : u ≠ v) {T : List Bool} {x y k : Nat} (h : CyI P A u v x y k T) (hn : bat T y = false) (k1 : 1 ≤ k) : CyI P A u v x (thF A v (thF A u y)) (k + 1) (mk2 A u y T) := by
  have h1 := hT.th_lt hu h.yP
  have an : bat T (thF A u y) = false := by rw [hT.ucl hu h.cu h.yP]; exact hn
  have yx : y ≠ x := fun e => by rw [e, h.mx] at hn; cases hn
  refine ⟨by rw [mk2_len]; exact h.len, h.xP, hT.th_lt hv h1, mk2_cu hT hu h.len h.cu h.yP, (mk2_at hT hu h.len h.yP u).2 (.inr (.inr h.mu)), (mk2_at hT hu h.len h.yP v).2 (.inr (.inr h.mv)), ?_, ?_, ?_, (mk2_at hT hu h.len h.yP x).2 (.inr (.inr h.mx)), fun e => by omega⟩
  · rw [hT.th_back hv h1]; exact (mk2_at hT hu h.len h.yP _).2 (.inr (.inl rfl))
  · intro z hz hm zx zt
    rw [hT.th_back hv h1] at zt
    rw [mk2_at hT hu h.len h.yP] at hm ⊢
    rcases hm with e | e | hm
    · subst e; exact .inr (.inr h.bv)
    · exact absurd e zt
    · by_cases e : z = thF A v y
      · subst e; exact .inl (hT.th_back hv h.yP)
      · exact .inr (.inr (h.open' z hz hm zx e))
  · intro hm
    rw [mk2_at hT hu h.len h.yP] at hm
    rcases hm with e | e | hm
    · -- y = β α y
      have e2 : thF A u y = thF A v y := by rw [← hT.th_back hv h1, e]
      rw [e2, h.bv] at an; cases an
    · have := hT.v_fix hv h1 e
      rw [this, h.mv] at an; cases an
    · -- marked before
      by_cases ex : thF A v (thF A u y) = x
      · exact ex
      · exfalso
        by_cases e2 : thF A v (thF A u y) = thF A v y
        · have := hT.th_inj hv h1 h.yP e2
          have hyu : y ≠ u := fun q => by rw [q, h.mu] at hn; cases hn
          exact (hT.th_ne hu h.yP (fun q => hyu q.symm)).2 this
        · have := h.open' _ (hT.th_lt hv h1) hm ex e2
          rw [hT.th_back hv h1, an] at this; cases this
/-- the end of a cycle -/
theorem CyI.done (hT : TS P A) (hv : v < P) {T : List Bool} {x y k : Nat} (h : CyI P A u v x y k T) (hn : bat T y = true) : CyB P A u v T := by
  have e := h.back hn
  subst e
  refine ⟨h.len, h.cu, fun z hz hm => ?_, h.mu, h.mv⟩
  by_cases e1 : z = y
  · subst e1; exact h.bv
  · by_cases e2 : z = thF A v y
    · subst e2; rw [hT.th_back hv h.yP]; exact h.mx
    · exact h.open' z hz hm e1 e2
/-- no cycle ends at its first step -/
theorem CyI.two (hT : TS P A) (hu : u < P) (hv : v < P) (huv : u ≠ v) {T : List Bool} {x y : Nat} (h : CyI P A u v x y 1 T) (hxu : x ≠ u) (hxv : x ≠ v) : bat T y = false := by
  cases e : bat T y
  · rfl
  · exfalso
    have e1 := h.back e
    have e2 := h.one rfl
    rw [e1] at e2
    have h1 := hT.th_lt hu h.xP
    have : thF A v x = thF A u x := by rw [e2, hT.th_back hv h1, ← e2]
    exact hT.uv_ne hu hv huv h.xP hxu hxv this.symm
end
end Go.Proofs.YtegmjlblehjccaaGreat
end

section
/- Walks: the cycles of a pair of points of a triple system. -/
namespace Go.Proofs.YtegmjlblehjccaaGreat
set_option linter.unusedSimpArgs false
set_option linter.unusedVariables false
open Go.RowKit
attribute [local go_sem ↓] Go.wp_at_zero Go.wp_at_succ

/-- lengths of cycles -/
structure CyLs (Ls : List Int) (T : List Bool) : Prop where
  even : ∀ l ∈ Ls, 4 ≤ l ∧ l % 2 = 0 ∧ l ≤ 1000
  cnt : (T.count true : Int) = 3 + sumL Ls
def CyEnd (P : Nat) (Ls : List Int) : Prop := (∀ l ∈ Ls, 4 ≤ l ∧ l % 2 = 0 ∧ l ≤ 1000) ∧ sumL Ls + 3 = P ∧ Ls.Pairwise (· ≤ ·)
def MakesCy (w : World) (P : Nat) (e : Ending) (w' : World) : Prop := ∃ v Ls, e = .returned (.tuple #[v, .int .i64 0]) ∧ CyEnd P Ls ∧ Ls.length ≤ P ∧ St w.heap.size w w' [row 2 v (iv Ls)]
theorem cnt_rep (n : Nat) : (List.replicate n false).count true = 0 := by
  induction n with
  | zero => rfl
  | succ n ih => rw [List.replicate_succ, List.count_cons, ih]; rfl
theorem cnt_full {T : List Bool} (h : ∀ z, z < T.length → bat T z = true) : T.count true = T.length := by
  induction T with
  | nil => rfl
  | cons b T ih =>
    have hb : b = true := h 0 (by simp)
    subst hb
    rw [List.count_cons, ih fun z hz => h (z + 1) (by simpa using hz)]; simp
section
variable {P : Nat} {A : List (List Int)} {u v : Nat}
/-- the marks of the block -/
theorem cy_base (hT : TS P A) (hu : u < P) (hv : v < P) (huv : u ≠ v) : CyB P A u v ((((List.replicate P false).set u true).set v true).set (thF A u v) true) ∧ ((((List.replicate P false).set u true).set v true).set (thF A u v) true).count true = 3 := by
  have hw := hT.th_lt hu hv
  obtain ⟨n1, n2⟩ := hT.th_ne hu hv huv
  have l0 : (List.replicate P false).length = P := by simp
  have l1 : ((List.replicate P false).set u true).length = P := by simp
  have l2 : (((List.replicate P false).set u true).set v true).length = P := by simp
  have hat : ∀ z, bat ((((List.replicate P false).set u true).set v true).set (thF A u v) true) z = true ↔ z = u ∨ z = v ∨ z = thF A u v := fun z => by
    rw [bat_set (by omega), bat_set (by omega), bat_set (by omega), bat_rep]
    by_cases e1 : thF A u v = z
    · rw [if_pos e1]; simp [e1]
    · rw [if_neg e1]
      by_cases e2 : v = z
      · rw [if_pos e2]; simp [e2]
      · rw [if_neg e2]
        by_cases e3 : u = z
        · rw [if_pos e3]; simp [e3]
        · rw [if_neg e3]
          constructor
          · intro h; cases h
          · rintro (h | h | h)
            · exact absurd h.symm e3
            · exact absurd h.symm e2
            · exact absurd h.symm e1
  have t1 : thF A u (thF A u v) = v := hT.th_back hu hv
  have t2 : thF A v u = thF A u v := hT.th_symm hv hu
  have t3 : thF A v (thF A u v) = u := by rw [← t2]; exact hT.th_back hv hu
  refine ⟨⟨by simp, fun z hz h => ?_, fun z hz h => ?_, (hat u).2 (.inl rfl), (hat v).2 (.inr (.inl rfl))⟩, ?_⟩
  · rw [hat] at h ⊢
    rcases h with rfl | rfl | rfl
    · exact .inl (thF_self A z)
    · exact .inr (.inr rfl)
    · exact .inr (.inl t1)
  · rw [hat] at h ⊢
    rcases h with rfl | rfl | rfl
    · exact .inr (.inr t2)
    · exact .inr (.inl (thF_self A z))
    · exact .inl t3
  · rw [cnt_set (by omega) (by rw [bat_set (by omega), bat_set (by omega), bat_rep, if_neg (fun q => n2 q.symm), if_neg (fun q => n1 q.symm)]), cnt_set (by omega) (by rw [bat_set (by omega), bat_rep, if_neg huv]), cnt_set (by omega) (bat_rep _ _), cnt_rep]
end
end Go.Proofs.YtegmjlblehjccaaGreat
end

section
/- Walks: the cycles of a pair of points, found. -/
namespace Go.Proofs.YtegmjlblehjccaaGreat
set_option linter.unusedSimpArgs false
set_option linter.unusedVariables false
open Go.RowKit
attribute [local go_sem ↓] Go.wp_at_zero Go.wp_at_succ

theorem sumL_permC {a b : List Int} (h : a.Perm b) : sumL a = sumL b := by
  induction h with
  | nil => rfl
  | cons x _ ih => simp only [sumL, ih]
  | swap x y l => simp only [sumL]; omega
  | trans _ _ h1 h2 => exact h1.trans h2
theorem sumL_snoc (a : List Int) (x : Int) : sumL (a ++ [x]) = sumL a + x := by
  induction a with
  | nil => simp [sumL]
  | cons y a ih => rw [List.cons_append, sumL, ih, sumL]; omega
def mT (P : Nat) (l : List Nat) : List Bool := l.foldl (fun T z => T.set z true) (List.replicate P false)
theorem mT_len (P : Nat) (l : List Nat) : (mT P l).length = P := by
  have : ∀ (l : List Nat) (T : List Bool), (l.foldl (fun T z => T.set z true) T).length = T.length := fun l => by
    induction l with
    | nil => intro T; rfl
    | cons z l ih => intro T; rw [List.foldl_cons, ih, List.length_set]
  unfold mT; rw [this]; simp
/-- within a cycle, or ahead of it -/
def CyR (P : Nat) (A : List (List Int)) (u v x : Nat) (T0 : List Bool) (y k : Nat) (T : List Bool) : Prop :=
  T.length = P ∧ y < P ∧ T.count true = T0.count true + 2 * k ∧ (∀ z, bat T0 z = true → bat T z = true) ∧ ((k = 0 ∧ y = x ∧ T = T0) ∨ (1 ≤ k ∧ CyI P A u v x y k T ∧ bat T0 x = false))
section
variable {P : Nat} {A : List (List Int)} {u v x y k : Nat} {T0 T : List Bool}
theorem CyR.step (hT : TS P A) (hu : u < P) (hv : v < P) (huv : u ≠ v) (hB : CyB P A u v T0) (h : CyR P A u v x T0 y k T) (hn : bat T y = false) : CyR P A u v x T0 (thF A v (thF A u y)) (k + 1) (mk2 A u y T) := by
  obtain ⟨h1, h2, h3, h4, h5⟩ := h
  have hw := hT.th_lt hv (hT.th_lt hu h2)
  have hcu : ClA P A u T ∧ bat T u = true := by
    rcases h5 with ⟨_, _, rfl⟩ | ⟨_, hI, _⟩
    · exact ⟨hB.cu, hB.mu⟩
    · exact ⟨hI.cu, hI.mu⟩
  refine ⟨by rw [mk2_len]; exact h1, hw, by rw [mk2_cnt hT hu h1 hcu.1 hcu.2 h2 hn, h3]; omega, fun z hz => (mk2_at hT hu h1 h2 z).2 (.inr (.inr (h4 z hz))), .inr ?_⟩
  rcases h5 with ⟨rfl, rfl, rfl⟩ | ⟨hk, hI, h0⟩
  · exact ⟨by omega, hB.first hT hu hv huv h2 hn, hn⟩
  · exact ⟨by omega, hI.step hT hu hv huv hn hk, h0⟩
theorem CyR.fin (hT : TS P A) (hu : u < P) (hv : v < P) (huv : u ≠ v) (hB : CyB P A u v T0) (h : CyR P A u v x T0 y k T) (hn : bat T y = true) : CyB P A u v T ∧ bat T x = true ∧ (k = 0 ∨ 2 ≤ k) := by
  obtain ⟨h1, h2, h3, h4, h5⟩ := h
  rcases h5 with ⟨rfl, rfl, rfl⟩ | ⟨hk, hI, h0⟩
  · exact ⟨hB, hn, .inl rfl⟩
  · refine ⟨hI.done hT hv hn, hI.mx, .inr ?_⟩
    rcases Nat.lt_or_ge 1 k with h | h
    · exact h
    · obtain rfl : k = 1 := by omega
      have hxu : x ≠ u := fun e => by rw [e, hB.mu] at h0; cases h0
      have hxv : x ≠ v := fun e => by rw [e, hB.mv] at h0; cases h0
      rw [hI.two hT hu hv huv hxu hxv] at hn; cases hn
theorem CyR.le (h : CyR P A u v x T0 y k T) : 2 * k ≤ P := by
  have := List.count_le_length (a := true) (l := T)
  rw [h.1, h.2.2.1] at this; omega
end
set_option maxHeartbeats 16000000 in
set_option maxRecDepth 100000 in
theorem CyclesOfPair_c (P u v : Nat) (vd : Value) (ud : List Value) (A : List (List Int)) (w : World) (hd : RII w vd ud A) (hA : TS P A) (hu : u < P) (hv : v < P) (huv : u ≠ v) :
    Calls Tryz.prog 15 #[dv P vd, .int .i64 u, .int .i64 v] w (MakesCy w P) := by
  obtain ⟨ad, cd, hsh⟩ := hd.1.sl.sh
  rw [hd.2.1] at hsh
  subst hsh
  have hP := hA.p32
  have hS0 := (St.refl w).newboxF 26 #[.int .i64 P, .slice ad A.length cd]
  have b0 := hS0.bcell 0 rfl 0 rfl
  have b1 := hS0.bcell 0 rfl 1 rfl
  have K1 := Lib.hid (fun W (h : RII W (.slice ad A.length cd) ud A) => differentPoints_c P (.slice ad A.length cd) ud A W h hA u v hu hv)
  rw [if_neg huv] at K1
  have K2 := Lib.hid (fun W (h : RII W (.slice ad A.length cd) ud A) => thirdPoints_c P (.slice ad A.length cd) ud A W h hA)
  have HA := Lib.hid hA
  have hw := hA.th_lt hu hv
  have HBs := Lib.hid (cy_base hA hu hv huv)
  have Hd := Lib.hid hd
  have Huv := Lib.hid huv
  unfold dv at K1 K2 ⊢
  clear hA hd huv
  go_enter Tryz.func15, Tryz.ntmps15
  go_wp2_with fail
  refine (K1.out _ (hS0.oldII Hd.out)).mono ?_
  rintro e w1 ⟨rfl, h1⟩
  have hS1 := hS0.call0 h1
  clear h1 hS0 K1 b0 b1
  have b0 := hS1.bcell 0 rfl 0 rfl
  have b1 := hS1.bcell 0 rfl 1 rfl
  go_wp2_with fail
  refine (K2.out _ (hS1.oldII Hd.out)).mono ?_
  rintro e w2 ⟨vt, ut, rfl, hlt, h2⟩
  have hS2 := hS1.call h2
  have rt := h2.rii hlt
  rw [sqF_len] at hlt
  clear hS1 K2 b0 b1
  have b0 := hS2.bcell 0 rfl 0 rfl
  have hTl : (sqF P fun x y => (thF A x y : Int)).length = P := sqF_len P _
  have Hix := Lib.hid (fun x y (hx : x < P) (hy : y < P) => (show (∀ W : World, (Instr.indexAt 24 vt (.int .i64 (x : Int))).run Tryz.prog W = .ok (.pointer (some (el vt x))) W) ∧ (∀ W : World, (Instr.indexAt 30 (vat ut x) (.int .i64 (y : Int))).run Tryz.prog W = .ok (.pointer (some (el (vat ut x) y))) W) from
    ⟨fun W => rt.ixe (x : Int) x rfl (by rw [hTl]; exact hx) W, fun W => (rt.row x (by rw [hTl]; exact hx)).ixe (y : Int) y rfl (by rw [(sqF_sqr P _).row x hx]; exact hy) W⟩))
  obtain ⟨LT, hLT⟩ : ∃ LT : List Ent, LT = box 26 w.heap.size [.int .i64 P, .slice ad A.length cd] :: own2 vt ut (sqF P fun x y => (thF A x y : Int)) := ⟨_, rfl⟩
  have hS2 : St w.heap.size w w2 LT := by rw [hLT]; exact hS2
  have HC := Lib.hid (fun W X (h : St w.heap.size w W (X ++ LT)) x y (hx : x < P) (hy : y < P) => (show W.cell? (el vt x) = some (vat ut x) ∧ W.cell? (el (vat ut x) y) = some (.int .i64 (thF A x y)) from by
    have h' := (h.sub (List.sublist_append_right _ _))
    rw [hLT] at h'
    have hr := (h'.sub (List.sublist_cons_self _ _)).rii (by rw [hlt, hTl])
    refine ⟨hr.cell x (by rw [hTl]; exact hx), ?_⟩
    have := (hr.row x (by rw [hTl]; exact hx)).cell y (by rw [(sqF_sqr P _).row x hx]; exact hy)
    rwa [show nth (xat (sqF P fun x y => (thF A x y : Int)) x) y = (thF A x y : Int) from at2_sqF hx hy] at this))
  have HBx := Lib.hid (fun W X (h : St w.heap.size w W (X ++ LT)) => (show W.cell? ⟨w.heap.size, 0, none⟩ = some (.int .i64 P) from by
    have h' := (h.sub (List.sublist_append_right _ _))
    rw [hLT] at h'
    exact h'.bcell 0 rfl 0 rfl))
  clear rt hlt hTl h2 hLT
  have t1 := (Hix.out u v hu hv).1
  have t2 := (Hix.out u v hu hv).2
  generalize hwe : thF A u v = wd at hw
  have Hwe := Lib.hid hwe
  clear hwe
  go_wp2_with (at_make; refine mkO hS2 rfl _ _ rfl _ _ P rfl rfl (by omega) ?_; intro sv w3 hS3; have hS4 : St w.heap.size w w3 (row 4 sv (bo (mT P (([u, v, wd] : List Nat).take 0))) :: LT) := hS3.perm List.perm_append_comm; have c1 := (HC.out w3 [_] hS4 u v hu hv).1; have c2 := (HC.out w3 [_] hS4 u v hu hv).2; rw [Hwe.out] at c2; clear hS3)
  have hS5 : St w.heap.size w _ (row 4 sv (bo (mT P (([u, v, wd] : List Nat).take 0))) :: LT ++ [row 2 (.slice (some ⟨w3.heap.size, 0, none⟩) 3 3) (iv [(u : Int), (v : Int), (wd : Int)])]) := hS4.new 2 #[.int .i64 u, .int .i64 v, .int .i64 wd] (by simp [maxLen])
  have hS6 : St w.heap.size w _ (row 4 sv (bo (mT P (([u, v, wd] : List Nat).take 0))) :: row 2 (.slice (some ⟨w3.heap.size, 0, none⟩) 3 3) (iv [(u : Int), (v : Int), (wd : Int)]) :: LT) := hS5.perm (List.Perm.cons _ List.perm_append_comm)
  have il := (hS6.rdI (xs := [(u : Int), (v : Int), (wd : Int)]) 1 rfl).ixe
  have isv := fun (x : Nat) (hx : x < P) => Lib.hid ((hS6.rdO 0 rfl).ixe (x : Int) x rfl (by rw [mT_len]; exact hx))
  clear hS4 hS5 t1 t2 c1 c2
  go_loopw [40, 12] (fun ji _ wr => ∃ (j : Nat), ji = .int .i64 j ∧ j ≤ 3 ∧ St w.heap.size w wr (row 4 sv (bo (mT P (([u, v, wd] : List Nat).take j))) :: row 2 (.slice (some ⟨w3.heap.size, 0, none⟩) 3 3) (iv [(u : Int), (v : Int), (wd : Int)]) :: LT)) (fun ji _ _ => 3 - (intOf ji).toNat)
  case atStart => exact ⟨0, rfl, by omega, hS6⟩
  case round =>
    clear hS6
    obtain ⟨j, rfl, hj, hS⟩ := hrel
    by_cases hj3 : j < 3
    · have hji : (j : Int) < 3 := by omega
      have ij := il (j : Int) j rfl (by simpa using hj3)
      have cj := (hS.rdI (xs := [(u : Int), (v : Int), (wd : Int)]) 1 rfl).cell j (by simpa using hj3)
      obtain ⟨x, hxn, hxP, hst⟩ : ∃ x : Nat, nth [(u : Int), (v : Int), (wd : Int)] j = x ∧ x < P ∧ mT P (([u, v, wd] : List Nat).take (j + 1)) = (mT P (([u, v, wd] : List Nat).take j)).set x true := by
        rcases (show j = 0 ∨ j = 1 ∨ j = 2 by omega) with rfl | rfl | rfl
        · exact ⟨u, rfl, hu, rfl⟩
        · exact ⟨v, rfl, hv, rfl⟩
        · exact ⟨wd, rfl, hw, rfl⟩
      rw [hxn] at cj
      have Hst := Lib.hid hst
      have ix := (isv x hxP).out
      have hxl := Lib.hid (show x < (mT P (([u, v, wd] : List Nat).take j)).length by rw [mT_len]; exact hxP)
      clear hst hxn
      go_wp2_with (refine stoO hS 0 rfl x hxl.out rfl _ _ rfl rfl true rfl ?_; intro w4 hS4)
      simp only [List.set_cons_zero] at hS4
      rw [← Hst.out] at hS4
      go_roundw
      case rel => exact ⟨j + 1, by go_num, by omega, hS4⟩
      case measure => simp [intOf]; omega
    · obtain rfl : j = 3 := by omega
      obtain ⟨hB0, hC0⟩ := HBs.out
      have hE : mT P (([u, v, wd] : List Nat).take 3) = (((List.replicate P false).set u true).set v true).set (thF A u v) true := by rw [Hwe.out]; rfl
      rw [← hE] at hB0 hC0
      generalize mT P (([u, v, wd] : List Nat).take 3) = TB at *
      have hS7 : St w.heap.size w wr (row 2 (.slice none 0 0) (iv []) :: (row 4 sv (bo TB) :: LT)) := ((hS.sub (L' := row 4 sv (bo TB) :: LT) ((List.sublist_cons_self _ _).cons_cons _)).newnil 2).perm List.perm_append_comm
      have hI0 : Hid (CyB P A u v TB ∧ CyLs [] TB ∧ (∀ z, z < 0 → bat TB z = true) ∧ ([] : List Int).length ≤ 0) := Lib.hid ⟨hB0, ⟨(fun l hl => by cases hl), by rw [hC0]; rfl⟩, (fun z hz => by omega), by simp⟩
      have z0 := HBx.out wr [_, _] hS7
      clear hS hB0 hC0 hE il HBs
      rw [show ((3 : Nat) : Int) = (3 : Int) from rfl]
      go_wp2_with fail
      clear z0
      go_loopw [50, 13, 14, 15, 16] (fun xi vl _ _ _ wr => ∃ (x : Nat) (T : List Bool) (Ls : List Int), xi = .int .i64 x ∧ x ≤ P ∧ Hid (CyB P A u v T ∧ CyLs Ls T ∧ (∀ z, z < x → bat T z = true) ∧ Ls.length ≤ x) ∧ St w.heap.size w wr (row 2 vl (iv Ls) :: (row 4 sv (bo T) :: LT))) (fun xi _ _ _ _ _ => P - (intOf xi).toNat)
      case atStart => exact ⟨0, TB, [], rfl, by omega, hI0, hS7⟩
      case round =>
        clear hS7 hI0
        obtain ⟨x, T0, Ls, rfl, hx, hI, hS⟩ := hrel
        by_cases hxP : x < P
        · have hxi : (x : Int) < (P : Int) := by omega
          have hR0 : Hid (CyR P A u v x T0 x 0 T0) := Lib.hid ⟨hI.out.1.len, hxP, by omega, fun z hz => hz, .inl ⟨rfl, rfl, rfl⟩⟩
          go_wp2_with fail
          go_loopw [15, 16] (fun li yi wr => ∃ (k y : Nat) (T : List Bool), li = .int .i64 (2 * (k : Int)) ∧ yi = .int .i64 y ∧ y < P ∧ Hid (CyR P A u v x T0 y k T) ∧ St w.heap.size w wr (row 2 u13 (iv Ls) :: (row 4 sv (bo T) :: LT))) (fun li _ _ => 100 - (intOf li).toNat)
          case atStart => exact ⟨0, x, T0, rfl, rfl, hxP, hR0, hS⟩
          case round =>
            clear hS hR0
            obtain ⟨k, y, T, rfl, rfl, hy, hR, hS⟩ := hrel
            have iy := (isv y hy).out
            have cy := (hS.rdO 1 rfl).cell y (by rw [hR.out.1]; exact hy)
            have hk2 := hR.out.le
            cases hb : bat T y
            · rw [hb] at cy
              have HN := Lib.hid (hR.out.step HA.out hu hv Huv.out hI.out.1 hb)
              have hyl := Lib.hid (show y < T.length by rw [hR.out.1]; exact hy)
              have c1 := HC.out _ [_, _] hS u y hu hy
              have t1 := Hix.out u y hu hy
              have hzP := HA.out.th_lt hu hy
              have t2 := Hix.out v (thF A u y) hv hzP
              have hyP' := HA.out.th_lt hv hzP
              have hk3 := HN.out.le
              have HM := Lib.hid (show mk2 A u y T = (T.set y true).set (thF A u y) true from rfl)
              have HCz := Lib.hid (fun W X (h : St w.heap.size w W (X ++ LT)) => HC.out W X h v (thF A u y) hv hzP)
              have HCy := Lib.hid (fun W X (h : St w.heap.size w W (X ++ LT)) => HC.out W X h u y hu hy)
              have iz := (isv (thF A u y) hzP).out
              have hzl := Lib.hid (show thF A u y < (T.set y true).length by rw [List.length_set, hR.out.1]; exact hzP)
              obtain ⟨y', hy'⟩ : ∃ y', thF A v (thF A u y) = y' := ⟨_, rfl⟩
              rw [hy'] at HN hyP' HCz
              have w1 : IntKind.i64.wrap (2 * (k : Int) + 2) = 2 * (k : Int) + 2 := IntWalk.i64_in _ (by omega)
              generalize thF A u y = z at *
              obtain ⟨c1, c2⟩ := c1
              obtain ⟨t1, t1'⟩ := t1
              obtain ⟨t2, t2'⟩ := t2
              clear hb hy'
              go_wp2_with (first
                | (refine stoO hS2 1 rfl z hzl.out rfl _ _ rfl rfl true rfl ?_; intro w5 hS5)
                | (refine stoO hS 1 rfl y hyl.out rfl _ _ rfl rfl true rfl ?_; intro w4 hS2; simp only [List.set_cons_zero, List.set_cons_succ] at hS2))
              simp only [List.set_cons_zero, List.set_cons_succ] at hS5
              rw [← HM.out] at hS5
              have HZ := Lib.hid (fun W (h : St w.heap.size w W (row 2 u13 (iv Ls) :: (row 4 sv (bo (mk2 A u y T)) :: LT))) => HCz.out W [row 2 u13 (iv Ls), row 4 sv (bo (mk2 A u y T))] h)
              have HY := Lib.hid (fun W (h : St w.heap.size w W (row 2 u13 (iv Ls) :: (row 4 sv (bo (mk2 A u y T)) :: LT))) => HCy.out W [row 2 u13 (iv Ls), row 4 sv (bo (mk2 A u y T))] h)
              obtain ⟨L, hL⟩ : ∃ L, L = row 2 u13 (iv Ls) :: (row 4 sv (bo (mk2 A u y T)) :: LT) := ⟨_, rfl⟩
              rw [← hL] at hS5 HZ HY
              have k1 := fun q : SS w.heap.size w L => (HZ.out _ q.st).1
              have k2 := fun q : SS w.heap.size w L => (HZ.out _ q.st).2
              have k3 := fun q : SS w.heap.size w L => (HY.out _ q.st).1
              have k4 := fun q : SS w.heap.size w L => (HY.out _ q.st).2
              have HL := Lib.hid hL
              clear hL c1 c2 hS hS2
              go_wp2_with fail
              have hne : Nonempty (SS _ _ _) := ⟨⟨_, hS5⟩⟩
              refine wp_region_st (by kernel_rfl) (by kernel_rfl) hS5 ?_
              repeat (go_big_quiet_step (fail))
              refine wpQuiet_nil ?_
              rintro _ ⟨s2, rfl⟩
              have hS6 := s2.st
              generalize s2.w = w6 at hS6 ⊢
              rw [HL.out] at hS6
              clear k1 k2 k3 k4
              go_wp2_with fail
              go_roundw
              case rel => exact ⟨k + 1, y', _, by go_num, rfl, hyP', HN, hS6⟩
              case measure => simp [intOf]; omega
            · rw [hb] at cy
              have HF := Lib.hid (hR.out.fin HA.out hu hv Huv.out hI.out.1 hb)
              have hR4 := Lib.hid (And.intro hR.out.2.2.1 hR.out.2.2.2.1)
              clear hb hR
              by_cases hk0 : k = 0
              · subst hk0
                have f1 : ¬ (0 : Int) < 2 * (((0 : Nat) : Int)) := by decide
                have Hn : Hid (CyB P A u v T ∧ CyLs Ls T ∧ (∀ z, z < x + 1 → bat T z = true) ∧ Ls.length ≤ x + 1) := Lib.hid ⟨HF.out.1, ⟨hI.out.2.1.even, by rw [hR4.out.1]; have := hI.out.2.1.cnt; omega⟩, (fun z hz => by
                  rcases Nat.lt_or_ge z x with h | h
                  · exact hR4.out.2 z (hI.out.2.2.1 z h)
                  · obtain rfl : z = x := by omega
                    exact HF.out.2.1), by have := hI.out.2.2.2; omega⟩
                go_wp2_with fail
                go_roundw
                case rel => exact ⟨x + 1, T, Ls, by go_num, by omega, Hn, hS⟩
                case measure => simp [intOf]; omega
              · have f1 : (0 : Int) < 2 * (k : Int) := by omega
                have hk1 : 2 ≤ k := by rcases HF.out.2.2 with h | h; exact absurd h hk0; exact h
                have Hn : Hid (CyB P A u v T ∧ CyLs (Ls ++ [2 * (k : Int)]) T ∧ (∀ z, z < x + 1 → bat T z = true) ∧ (Ls ++ [2 * (k : Int)]).length ≤ x + 1) := Lib.hid ⟨HF.out.1, ⟨(fun l hl => by
                  rcases List.mem_append.1 hl with h | h
                  · exact hI.out.2.1.even l h
                  · rw [List.mem_singleton.1 h]; omega), by rw [sumL_snoc, hR4.out.1]; have := hI.out.2.1.cnt; omega⟩, (fun z hz => by
                  rcases Nat.lt_or_ge z x with h | h
                  · exact hR4.out.2 z (hI.out.2.2.1 z h)
                  · obtain rfl : z = x := by omega
                    exact HF.out.2.1), by rw [List.length_append]; have := hI.out.2.2.2; simp; omega⟩
                have hN := Lib.hid (show Ls.length < 4294967296 by have := hI.out.2.2.2; omega)
                go_wp2_with (at_builtin; refine appI hS 0 rfl hN.out rfl _ _ rfl rfl _ (by first | rfl | simp [Act.eval, Act.put]) ?_; intro v5 w5 hS5; simp only [List.set_cons_zero] at hS5)
                go_roundw
                case rel => exact ⟨x + 1, T, _, by go_num, by omega, Hn, hS5⟩
                case measure => simp [intOf]; omega
        · obtain rfl : x = P := by omega
          have hfull := cnt_full (T := T0) (by rw [hI.out.1.len]; exact hI.out.2.2.1)
          have hE : CyEnd x (srt Ls) := ⟨fun l hl => hI.out.2.1.even l ((srt_perm Ls).mem_iff.1 hl), by
            rw [sumL_permC (srt_perm Ls)]
            have h1 := hI.out.2.1.cnt
            rw [hfull, hI.out.1.len] at h1
            omega, msort_sorted Ls⟩
          have HE := Lib.hid hE
          have hN := Lib.hid (show Ls.length < 4611686018427387904 by have := hI.out.2.2.2; omega)
          have hl := Lib.hid (show (srt Ls).length ≤ x by rw [srt_len]; exact hI.out.2.2.2)
          clear hE hfull
          go_wp2_with fail
          refine (Sort_c hS 0 rfl hN.out).mono ?_
          rintro e w5 ⟨rfl, h5⟩
          simp only [List.set_cons_zero] at h5
          go_wp2_with fail
          go_ret2
          exact ⟨_, _, rfl, HE.out, hl.out, h5.sub ((List.nil_sublist _).cons_cons _)⟩
end Go.Proofs.YtegmjlblehjccaaGreat
end

section
/- Walks: the switching of a quadrilateral of the reference. -/
namespace Go.Proofs.YtegmjlblehjccaaGreat
set_option linter.unusedSimpArgs false
set_option linter.unusedVariables false
open Go.RowKit
attribute [local go_sem ↓] Go.wp_at_zero Go.wp_at_succ

theorem vat_app_l {us ws : List Value} {j : Nat} (h : j < us.length) : vat (us ++ ws) j = vat us j := by
  unfold vat; rw [List.getD_eq_getElem?_getD, List.getD_eq_getElem?_getD, List.getElem?_append_left h]
theorem vat_app_r {us : List Value} {u : Value} {j : Nat} (h : us.length = j) : vat (us ++ [u]) j = u := by
  subst h; unfold vat; rw [List.getD_eq_getElem?_getD, List.getElem?_append_right (Nat.le_refl _), Nat.sub_self]; rfl
/-- another triple system, or none -/
def MakesSw (w : World) (P : Nat) (e : Ending) (w' : World) : Prop := (∃ A', TS P A' ∧ MakesD w P A' 0 e w') ∨ MakesD w 0 [] 6 e w'
set_option maxHeartbeats 16000000 in
set_option maxRecDepth 100000 in
theorem sSwitchPasch_c (P : Nat) (v vq : Value) (us : List Value) (A : List (List Int)) (q : List Int) (w : World) (hv : RII w v us A) (hq : RdI w vq q) (hA : TS P A) (hQ : IsPas A q) :
    Calls Tryz.prog 95 #[dv P v, vq] w (MakesSw w P) := by
  obtain ⟨a0, c, hsh⟩ := hv.1.sl.sh
  rw [hv.2.1] at hsh
  subst hsh
  obtain ⟨i, j, k, l, a, b, c', d, e, f, hp0⟩ := hQ
  obtain ⟨i, j, k, l, a, b, c', d, e, f, hp, hfst, hab, hac, had, hae, haf⟩ := hp0.first hA
  clear hp0
  have hAl := (dOk_t hA.ok).len
  have hP := hA.p32
  have haP := hA.lt (xat_mem hp.li) hp.b1.m1
  have hfP := hA.lt (xat_mem hp.lk) hp.b3.m1
  have hS0 := ((St.refl w).newboxF 26 #[.int .i64 P, .slice a0 A.length c]).newboxF 26 #[.int .i64 0, .slice none 0 0]
  simp only [World.size_alloc] at hS0
  have hbx : ∀ W L, St w.heap.size w W (L ++ [box 26 (w.heap.size + 1) [.int .i64 0, .slice none 0 0], box 26 w.heap.size [.int .i64 P, .slice a0 A.length c]]) → BoxD W w.heap.size P (.slice a0 A.length c) := fun W L h => by
    have h' := h.sub (List.sublist_append_right _ _)
    exact ⟨h'.bcell 1 rfl 0 rfl, h'.bcell 1 rfl 1 rfl⟩
  have Hbx := Lib.hid hbx
  have b0 := hbx _ [] hS0
  have K1 := Lib.hid (l11Ok_c P w.heap.size (.slice a0 A.length c) us A _ (hS0.oldII hv) b0 hA)
  have K2 := Lib.hid (fun W (h : RII W (.slice a0 A.length c) us A) h2 => l11Paschs_c P w.heap.size (.slice a0 A.length c) us A W h h2 hA)
  have hix := hv.ixe
  have hln := hv.len
  have qix := hq.ixe
  have hql := hp.ql
  rw [hql] at qix
  have Hv := Lib.hid hv
  have Hq := Lib.hid hq
  have hv0 := Lib.hid (fun m (hm : m < A.length) => hv.row m hm)
  have H3 := Lib.hid (fun m (hm : m < A.length) => (by rw [hA.three _ (xat_mem hm)]; exact Nat.le_refl 3 : 3 ≤ (xat A m).length))
  have HTs := Lib.hid (hp.ts hA)
  have Hqi := Lib.hid (fun t (ht : t < 4) => hp.qi ht)
  have Hql := Lib.hid hql
  have Hps := Lib.hid (fun t ht => hp.pset hA t ht)
  have Hpm := Lib.hid (fun x (hx : x ∈ ptsL A q 4) => hp.apr hx)
  have Hlst := Lib.hid hp.lst
  have Hrow := Lib.hid (fun m (hm : m < A.length) => hp.row hA hm)
  have Hput := Lib.hid (fun m (hm : m < A.length) hq' => hp.put hA hm hq')
  have H32 := Lib.hid (fun B (hB : B ∈ A) => hA.in32 hB)
  have Hfst := Lib.hid hfst
  have Hsw := Lib.hid (show (swQ A q a f).length = A.length by rw [swQ, List.length_map])
  clear hp hA hv hq hfst hbx b0 hql
  unfold dv
  go_enter Tryz.func95, Tryz.ntmps95
  go_wp2_with fail
  refine K1.out.mono ?_
  rintro e1 w2 ⟨rfl, h2⟩
  have hS2 := hS0.call0 h2
  have K := Lib.hid (K2.out w2 (hS2.oldII Hv.out) (Hbx.out _ [] hS2))
  clear K1 h2 hS0 K2
  go_wp2_with fail
  refine K.out.mono ?_
  rintro e1 w3 ⟨vR, uR, R, rfl, rR, lR, pR, h3⟩
  have hS3 := hS2.call0 h3
  have KF := Lib.hid (l05Find_c vR vq uR R q w3 rR (hS3.oldI Hq.out) (by omega))
  clear K h3 hS2
  go_wp2_with fail
  refine KF.out.mono ?_
  rintro e1 w4 ⟨m, bo, rfl, hF, h4⟩
  have hS4 := hS3.call0 h4
  clear KF h4 hS3 hF rR lR pR
  cases bo
  · have f0 := hS4.bfree 0 rfl
    have h6 := (hS4.bstore 0 rfl 0 (.int .i64 0)).bstore 0 rfl 1 (.slice none 0 0)
    have d0 := h6.bcell 0 rfl 0 rfl
    have d1 := h6.bcell 0 rfl 1 rfl
    have e0 := hS4.bcell 0 rfl 0 rfl
    have e1 := hS4.bcell 0 rfl 1 rfl
    go_wp2_with fail
    refine bodyPost_ret (v := .tuple #[.agg #[.int .i64 0, .slice none 0 0], .int .i64 6]) (by simp [results, Tryz.results95, go_sem, d0, d1, e0, e1]) rfl ?_
    first | exact .inr (MakesD.no h6) | exact .inr (MakesD.no hS4)
  · obtain ⟨LB, hLB⟩ : ∃ LB : List Ent, LB = [box 26 (w.heap.size + 1) [.int .i64 0, .slice none 0 0], box 26 w.heap.size [.int .i64 P, .slice a0 A.length c]] := ⟨_, rfl⟩
    have HLB := Lib.hid hLB
    rw [← hLB] at hS4 Hbx
    obtain ⟨q0, hq0, hq0A, _⟩ := Hqi.out 0 (by omega)
    have xq0 := qix 0 0 rfl (by omega)
    have xb0 := hix (q0 : Int) q0 rfl hq0A
    have k1 := fun s : SS w.heap.size w LB => (Hbx.out _ [] s.st).2
    have k2 := fun s : SS w.heap.size w LB => (s.st.oldI Hq.out).cell 0 (by rw [Hql.out]; omega)
    have k3 := fun s : SS w.heap.size w LB => (s.st.oldII Hv.out).cell q0 hq0A
    have hf2 := Hfst.out
    rw [hq0] at k2 hf2
    rw [Int.toNat_natCast] at hf2
    have hfr := Lib.hid (And.intro hq0A hf2)
    clear hLB hq0 hf2
    go_wp2_with fail
    have hne : Nonempty (SS _ _ _) := ⟨⟨_, hS4⟩⟩
    refine wp_region_st (by kernel_rfl) (by kernel_rfl) hS4 ?_
    repeat (go_big_quiet_step (fail))
    refine wpQuiet_nil ?_
    rintro _ ⟨s2, rfl⟩
    have hS5 := s2.st
    generalize s2.w = w5 at hS5 ⊢
    clear k1 k2 k3 hS4
    have hS6 : St w.heap.size w _ (row 2 (.slice (some ⟨w5.heap.size, 0, none⟩) 0 0) (iv (ptsL A q 0)) :: LB) := (hS5.new 2 #[] (by simp)).perm List.perm_append_comm
    clear hS5
    go_wp2_with fail
    go_loopw [9, 10] (fun o ti wr => ∃ (t : Nat), t ≤ 4 ∧ ti = .int .i64 t ∧ St w.heap.size w wr (row 2 o (iv (ptsL A q t)) :: LB)) (fun _ ti _ => 4 - (intOf ti).toNat)
    case atStart => exact ⟨0, by omega, rfl, hS6⟩
    case round =>
      clear hS6
      obtain ⟨t, ht, rfl, hS⟩ := hrel
      by_cases ht4 : t < 4
      · have hti : (t : Int) < 4 := by omega
        obtain ⟨m, hm, hmA, _⟩ := Hqi.out t ht4
        have xq := qix (t : Int) t rfl ht4
        have xm := hix (m : Int) m rfl hmA
        have cb := (Hbx.out _ [row 2 u9 (iv (ptsL A q t))] hS).2
        have cq := (hS.oldI Hq.out).cell t (by rw [Hql.out]; omega)
        rw [hm] at cq
        have cm := (hS.oldII Hv.out).cell m hmA
        have hSd := hS.drew
        have KU := Lib.hid (fun W (h : RdI W u9 (ptsL A q t)) (h2 : RdI W (vat us m) (xat A m)) => sUnionSets_c u9 (vat us m) (ptsL A q t) (xat A m) W h h2 (Hps.out t (by omega)) (H32.out _ (xat_mem hmA)))
        rw [show uniL (ptsL A q t) (xat A m) = ptsL A q (t + 1) by rw [ptsL, hm, Int.toNat_natCast]] at KU
        have r1 := Lib.hid (hSd.rdI (xs := ptsL A q t) 0 rfl)
        have r2 := Lib.hid ((hSd.oldII Hv.out).row m hmA)
        clear hm
        go_wp2_with fail
        go_region_held3 (fun w' => w'.cell? ⟨w.heap.size, 1, none⟩ = some (.slice a0 A.length c) ∧ w'.cell? (el vq t) = some (.int .i64 m) ∧ w'.cell? (el (.slice a0 A.length c) m) = some (vat us m)) (((try dsimp only); (repeat' apply And.intro); all_goals (repeat (first | assumption | exact cell_dr (by assumption) | refine cell_dr ?_ | refine cell_al ?_ | refine cell_sc (by assumption) ?_)))) (first
          | (go_at_call 11; refine (KU.out _ r1.out r2.out).mono ?_; rintro e3 w3 ⟨v3, rfl, h3⟩; have d1 := cell_keepT h3.below (cell_dr cb); have d2 := cell_keepT h3.below (cell_dr cq); have d3 := cell_keepT h3.below (cell_dr cm)))
        have hS7 := ((hSd.call h3).sub (List.sublist_cons_self _ _)).perm List.perm_append_comm
        clear hS hSd h3 d1 d2 d3 cb cq cm r1 r2 KU
        go_wp2_with fail
        go_roundw
        case rel => exact ⟨t + 1, by omega, by go_num, hS7⟩
        case measure => simp [intOf]; omega
      · obtain rfl : t = 4 := by omega
        rw [show ((4 : Nat) : Int) = (4 : Int) from rfl]
        have hlp : (ptsL A q 4).length ≤ 33 := by have := inc_len (Hps.out 4 (Nat.le_refl _)) (by omega); omega
        have rr := Lib.hid (hv0.out q0 hfr.out.1)
        have l3 : 0 < (xat A q0).length := Nat.lt_of_lt_of_le (by decide) (H3.out q0 hfr.out.1)
        have x0 := rr.out.ixe 0 0 rfl l3
        have c0 := (hS.oldI rr.out).cell 0 l3
        rw [← hfr.out.2] at c0
        have hlnp := (hS.rdI (xs := ptsL A q 4) 0 rfl).len
        have HL0 := Lib.hid (show (-1 : Int) = lstF f ((ptsL A q 4).take 0) by rw [List.take_zero]; unfold lstF; rw [if_neg (by simp)])
        have Hpt := Lib.hid (fun n (hn : n < (ptsL A q 4).length) => Hpm.out _ (nth_mem hn))
        have Hlt := Lib.hid (fun n (hn : n < (ptsL A q 4).length) => lstF_take (f := (f : Int)) hn)
        have HLe := Lib.hid (show lstF f ((ptsL A q 4).take (ptsL A q 4).length) = f by rw [List.take_length]; exact Hlst.out)
        clear l3
        generalize ptsL A q 4 = pts at *
        go_wp2_with fail
        clear c0
        go_loopw [12, 13, 14, 15] (fun la ni _ _ wr => ∃ (n : Nat), n ≤ pts.length ∧ la = .int .i64 (lstF f (pts.take n)) ∧ ni = .int .i64 n ∧ St w.heap.size w wr (row 2 u9 (iv pts) :: LB)) (fun _ ni _ _ _ => pts.length - (intOf ni).toNat)
        case atStart => exact ⟨0, by omega, by rw [← HL0.out], rfl, hS⟩
        case round =>
          clear hS HL0
          obtain ⟨n, hn, rfl, rfl, hS⟩ := hrel
          by_cases hnl : n < pts.length
          · have hni : (n : Int) < (pts.length : Int) := by omega
            have xn := (hS.rdI (xs := pts) 0 rfl).ixe (n : Int) n rfl hnl
            have cn := (hS.rdI (xs := pts) 0 rfl).cell n hnl
            have Kn := Lib.hid (fun W (h : St w.heap.size w W (row 2 u9 (iv pts) :: LB)) => (h.rdI (xs := pts) 0 rfl).cell n hnl)
            have Hp4 := Lib.hid (Hpt.out n hnl)
            have Hl4 := Lib.hid (Hlt.out n hnl)
            generalize nth pts n = x at *
            generalize lstF f (pts.take n) = la at *
            have HA0 := Lib.hid (show (x != (a : Int)) = aprB A q a x 0 by
              show _ = decide (x ≠ a)
              by_cases e : x = a
              · subst e; simp
              · simp [e])
            go_wp2_with fail
            go_loopw [14, 15] (fun ap ki wr => ∃ (t : Nat), t ≤ 4 ∧ ap = .bool (aprB A q a x t) ∧ ki = .int .i64 t ∧ St w.heap.size w wr (row 2 u9 (iv pts) :: LB)) (fun _ ki _ => 4 - (intOf ki).toNat)
            case atStart => exact ⟨0, by omega, by rw [HA0.out], rfl, hS⟩
            case round =>
              clear hS cn HA0
              obtain ⟨t, ht, rfl, rfl, hS⟩ := hrel
              by_cases ht4 : t < 4
              · have hti : (t : Int) < 4 := by omega
                obtain ⟨m, hm, hmA, _⟩ := Hqi.out t ht4
                have Ha1 := Lib.hid (show aprB A q a x (t + 1) = (aprB A q a x t && !(decide ((a : Int) ∈ xat A m) && decide (x ∈ xat A m))) by rw [aprB, hm, Int.toNat_natCast])
                have xq := qix (t : Int) t rfl ht4
                have xm := hix (m : Int) m rfl hmA
                have K1b := Lib.hid (fun W (h : St w.heap.size w W (row 2 u9 (iv pts) :: LB)) => (Hbx.out W [row 2 u9 (iv pts)] h).2)
                obtain ⟨L, hL⟩ : ∃ L, L = row 2 u9 (iv pts) :: LB := ⟨_, rfl⟩
                rw [← hL] at hS Kn K1b
                have k1 := fun s : SS w.heap.size w L => K1b.out _ s.st
                have k2 := fun s : SS w.heap.size w L => (s.st.oldI Hq.out).cell t (by rw [Hql.out]; omega)
                have k3 := fun s : SS w.heap.size w L => (s.st.oldII Hv.out).cell m hmA
                have k4 := fun s : SS w.heap.size w L => Kn.out _ s.st
                rw [hm] at k2
                have F1 := Lib.hid (fun s : SS w.heap.size w L => l00Has_c (vat us m) (xat A m) (a : Int) s.w ((s.st.oldII Hv.out).row m hmA))
                have F2 := Lib.hid (fun s : SS w.heap.size w L => l00Has_c (vat us m) (xat A m) x s.w ((s.st.oldII Hv.out).row m hmA))
                have HL := Lib.hid hL
                clear hm hL
                generalize aprB A q a x t = ap0 at *
                generalize decide ((a : Int) ∈ xat A m) = da at *
                generalize decide (x ∈ xat A m) = dx at *
                cases ap0
                · have H1 := Lib.hid (show aprB A q a x (t + 1) = false by rw [Ha1.out]; rfl)
                  go_wp2_with fail
                  have hne : Nonempty (SS _ _ _) := ⟨⟨_, hS⟩⟩
                  refine wp_region_st (by kernel_rfl) (by kernel_rfl) hS ?_
                  repeat (go_big_quiet_step (fail))
                  refine wpQuiet_nil ?_
                  rintro _ ⟨s2, rfl⟩
                  have hS6 := s2.st
                  generalize s2.w = w6 at hS6 ⊢
                  rw [HL.out] at hS6
                  clear k1 k2 k3 k4
                  go_wp2_with fail
                  go_roundw
                  case rel => exact ⟨t + 1, by omega, by rw [H1.out], by go_num, hS6⟩
                  case measure => simp [intOf]; omega
                · cases da
                  · have H1 := Lib.hid (show aprB A q a x (t + 1) = true by rw [Ha1.out]; rfl)
                    go_wp2_with fail
                    have hne : Nonempty (SS _ _ _) := ⟨⟨_, hS⟩⟩
                    refine wp_region_st (by kernel_rfl) (by kernel_rfl) hS ?_
                    repeat (go_big_quiet_step ((go_at_call 156; exact st_quiet0 (F1.out _))))
                    refine wpQuiet_nil ?_
                    rintro _ ⟨s2, rfl⟩
                    have hS6 := s2.st
                    generalize s2.w = w6 at hS6 ⊢
                    rw [HL.out] at hS6
                    clear k1 k2 k3 k4
                    go_wp2_with fail
                    go_roundw
                    case rel => exact ⟨t + 1, by omega, by rw [H1.out], by go_num, hS6⟩
                    case measure => simp [intOf]; omega
                  · cases dx
                    · have H1 := Lib.hid (show aprB A q a x (t + 1) = true by rw [Ha1.out]; rfl)
                      go_wp2_with fail
                      have hne : Nonempty (SS _ _ _) := ⟨⟨_, hS⟩⟩
                      refine wp_region_st (by kernel_rfl) (by kernel_rfl) hS ?_
                      repeat (go_big_quiet_step ((first | (go_at_call_of 156 (Value.int .i64 (a : Int)); exact st_quiet0 (F1.out _)) | (go_at_call_of 156 (Value.int .i64 x); exact st_quiet0 (F2.out _)))))
                      refine wpQuiet_nil ?_
                      rintro _ ⟨s2, rfl⟩
                      have hS6 := s2.st
                      generalize s2.w = w6 at hS6 ⊢
                      rw [HL.out] at hS6
                      clear k1 k2 k3 k4
                      go_wp2_with fail
                      go_roundw
                      case rel => exact ⟨t + 1, by omega, by rw [H1.out], by go_num, hS6⟩
                      case measure => simp [intOf]; omega
                    · have H1 := Lib.hid (show aprB A q a x (t + 1) = false by rw [Ha1.out]; rfl)
                      go_wp2_with fail
                      have hne : Nonempty (SS _ _ _) := ⟨⟨_, hS⟩⟩
                      refine wp_region_st (by kernel_rfl) (by kernel_rfl) hS ?_
                      repeat (go_big_quiet_step ((first | (go_at_call_of 156 (Value.int .i64 (a : Int)); exact st_quiet0 (F1.out _)) | (go_at_call_of 156 (Value.int .i64 x); exact st_quiet0 (F2.out _)))))
                      refine wpQuiet_nil ?_
                      rintro _ ⟨s2, rfl⟩
                      have hS6 := s2.st
                      generalize s2.w = w6 at hS6 ⊢
                      rw [HL.out] at hS6
                      clear k1 k2 k3 k4
                      go_wp2_with fail
                      go_roundw
                      case rel => exact ⟨t + 1, by omega, by rw [H1.out], by go_num, hS6⟩
                      case measure => simp [intOf]; omega
              · obtain rfl : t = 4 := by omega
                rw [Hp4.out]
                have cn := Kn.out _ hS
                by_cases hxf : x = f
                · rw [decide_eq_true hxf]
                  have H1 := Lib.hid (show lstF f (pts.take (n + 1)) = x by rw [Hl4.out, if_pos hxf]; exact hxf.symm)
                  clear hxf
                  go_wp2_with fail
                  go_roundw
                  case rel => exact ⟨n + 1, by omega, by rw [H1.out], by go_num, hS⟩
                  case measure => simp [intOf]; omega
                · rw [decide_eq_false hxf]
                  have H1 := Lib.hid (show lstF f (pts.take (n + 1)) = la by rw [Hl4.out, if_neg hxf])
                  clear hxf
                  go_wp2_with fail
                  go_roundw
                  case rel => exact ⟨n + 1, by omega, by rw [H1.out], by go_num, hS⟩
                  case measure => simp [intOf]; omega
          · obtain rfl : n = pts.length := by omega
            rw [HLe.out]
            have hS7 := hS.sub (List.sublist_cons_self _ _)
            clear hS Hpt Hlt HLe Hpm Hlst Hps Hqi H3
            obtain ⟨S, hSq⟩ : ∃ S, S = swQ A q a f := ⟨_, rfl⟩
            rw [← hSq] at Hrow Hput HTs Hsw
            have hS8 : St w.heap.size w _ (row 30 (.slice (some ⟨wr.heap.size, 0, none⟩) 0 0) [] :: ([] ++ LB)) := (hS7.new 30 #[] (by simp)).perm List.perm_append_comm
            clear hS7 hSq
            go_wp2_with fail
            clear hlnp
            go_loopw [16, 17, 18, 19] (fun o ni _ _ wr => ∃ (n : Nat) (uo : List Value) (N : List Ent), n ≤ A.length ∧ ni = .int .i64 n ∧ Hid (uo.length = n ∧ ∀ W, St w.heap.size w W N → ∀ j, j < n → RdI W (vat uo j) (xat S j)) ∧ St w.heap.size w wr (row 30 o uo :: (N ++ LB))) (fun _ ni _ _ _ => A.length - (intOf ni).toNat)
            case atStart => exact ⟨0, [], [], by omega, rfl, ⟨rfl, fun W _ j hj => by omega⟩, hS8⟩
            case round =>
              clear hS8
              obtain ⟨n, uo, N, hn, rfl, hI, hS⟩ := hrel
              have c1 := (Hbx.out _ (row 30 u16 uo :: N) hS).2
              by_cases hnA : n < A.length
              · have hni : (n : Int) < (A.length : Int) := by omega
                have xn := hix (n : Int) n rfl hnA
                have cn := (hS.oldII Hv.out).cell n hnA
                have Rn := Lib.hid (fun W L (h : St w.heap.size w W L) => (h.oldII Hv.out).row n hnA)
                have KH := Lib.hid (fun W (h : RdI W vq q) => l00Has_c vq q (n : Int) W h)
                have hone := Lib.hid (hv0.out n hnA).sl.one
                have Hr := Lib.hid (Hrow.out n hnA)
                have Hp := Lib.hid (Hput.out n hnA)
                have hN := Lib.hid (show uo.length < 4294967296 by rw [hI.out.1]; omega)
                have hB32 := Lib.hid (H32.out _ (xat_mem hnA))
                by_cases hnq : (n : Int) ∈ q
                · rw [decide_eq_true hnq] at KH
                  have Hp2 := Lib.hid (Hp.out hnq)
                  have hS1 : St w.heap.size w _ (row 30 u16 uo :: (N ++ LB) ++ [row 2 (.slice (some ⟨wr.heap.size, 0, none⟩) 2 2) (iv [(a : Int), (f : Int)])]) := hS.new 2 #[.int .i64 a, .int .i64 f] (by simp [maxLen])
                  have hraf := (hS1.sub (List.sublist_append_right _ _)).rdI (xs := [(a : Int), (f : Int)]) 0 rfl
                  have KM := Lib.hid (sMinusSets_c (vat us n) _ (xat A n) [(a : Int), (f : Int)] _ (Rn.out _ _ hS1) hraf hB32.out (by rw [incB, if_neg (by omega), incB, if_neg (by omega)]; rfl))
                  have KA := Lib.hid (fun W (h : RdI W (vat us n) (xat A n)) => l00Has_c (vat us n) (xat A n) (a : Int) W h)
                  have KP := Lib.hid (fun W vx (h : RdI W vx (bothL (xat A n) [(a : Int), (f : Int)] false)) => l00PutX_c vx (bothL (xat A n) [(a : Int), (f : Int)] false) (if (a : Int) ∈ xat A n then (f : Int) else a) W h (by
                    have h1 := bothL_len (xat A n) [(a : Int), (f : Int)] false
                    have h2 := inc_len hB32.out (by omega)
                    omega))
                  rw [Hp2.out] at KP
                  clear Hr Hp Hp2 hnq hraf
                  go_wp2_with fail
                  refine (KH.out _ (hS.oldI Hq.out)).mono ?_
                  rintro e6 w6 ⟨rfl, rfl⟩
                  clear hS KH c1 cn
                  go_wp2_with fail
                  refine KM.out.mono ?_
                  rintro e7 w7 ⟨vm, rfl, h7⟩
                  have hS7 := (hS1.sub (List.sublist_append_left _ _)).call h7
                  have r7 := h7.rdI 0 rfl
                  have R7 := Lib.hid (Rn.out _ _ hS7)
                  clear hS1 KM h7
                  by_cases ha : (a : Int) ∈ xat A n
                  · rw [decide_eq_true ha] at KA
                    rw [if_pos ha] at KP
                    clear ha
                    go_wp2_with fail
                    refine (KA.out _ R7.out).mono ?_
                    rintro e8 w8 ⟨rfl, rfl⟩
                    go_wp2_with fail
                    refine (KP.out _ _ r7).mono ?_
                    rintro e9 w9 ⟨vz, rfl, h9⟩
                    obtain ⟨za, zc, hz⟩ := (h9.rdI 0 rfl).sl.sh
                    generalize hdl : (iv (xat S n)).length = dl at hz
                    clear hdl
                    subst hz
                    have hS9 := (hS7.sub (List.sublist_append_left _ _)).call h9
                    clear h9 hS7 r7 KA KP
                    go_wp2_with (at_builtin; refine appII hS9 0 rfl hN.out rfl _ _ rfl rfl _ rfl (by first | rfl | simp [Act.eval, World.size_alloc]) ?_; intro v8 w8 hS8)
                    have hS10 : St w.heap.size w w8 (row 30 v8 (uo ++ [.slice za dl zc]) :: ((N ++ [row 2 (.slice za dl zc) (iv (xat S n))]) ++ LB)) := hS8.perm (by
                      simp only [List.cons_append, List.set_cons_zero, List.append_assoc]
                      exact List.Perm.cons _ (List.Perm.append_left _ List.perm_append_comm))
                    go_roundw
                    case rel => exact ⟨n + 1, _, _, by omega, by go_num, ⟨by rw [List.length_append, hI.out.1]; rfl, fun W h j hj => by
                      by_cases e : j < n
                      · rw [vat_app_l (by rw [hI.out.1]; exact e)]; exact hI.out.2 W (h.sub (List.sublist_append_left _ _)) j e
                      · obtain rfl : j = n := by omega
                        have hl := hI.out.1
                        rw [vat_app_r (by rw [hl])]
                        exact (h.sub (List.sublist_append_right _ _)).rdI (xs := xat S j) 0 rfl⟩, hS10⟩
                    case measure => simp [intOf]; omega
                  · rw [decide_eq_false ha] at KA
                    rw [if_neg ha] at KP
                    clear ha
                    go_wp2_with fail
                    refine (KA.out _ R7.out).mono ?_
                    rintro e8 w8 ⟨rfl, rfl⟩
                    go_wp2_with fail
                    refine (KP.out _ _ r7).mono ?_
                    rintro e9 w9 ⟨vz, rfl, h9⟩
                    obtain ⟨za, zc, hz⟩ := (h9.rdI 0 rfl).sl.sh
                    generalize hdl : (iv (xat S n)).length = dl at hz
                    clear hdl
                    subst hz
                    have hS9 := (hS7.sub (List.sublist_append_left _ _)).call h9
                    clear h9 hS7 r7 KA KP
                    go_wp2_with (at_builtin; refine appII hS9 0 rfl hN.out rfl _ _ rfl rfl _ rfl (by first | rfl | simp [Act.eval, World.size_alloc]) ?_; intro v8 w8 hS8)
                    have hS10 : St w.heap.size w w8 (row 30 v8 (uo ++ [.slice za dl zc]) :: ((N ++ [row 2 (.slice za dl zc) (iv (xat S n))]) ++ LB)) := hS8.perm (by
                      simp only [List.cons_append, List.set_cons_zero, List.append_assoc]
                      exact List.Perm.cons _ (List.Perm.append_left _ List.perm_append_comm))
                    go_roundw
                    case rel => exact ⟨n + 1, _, _, by omega, by go_num, ⟨by rw [List.length_append, hI.out.1]; rfl, fun W h j hj => by
                      by_cases e : j < n
                      · rw [vat_app_l (by rw [hI.out.1]; exact e)]; exact hI.out.2 W (h.sub (List.sublist_append_left _ _)) j e
                      · obtain rfl : j = n := by omega
                        have hl := hI.out.1
                        rw [vat_app_r (by rw [hl])]
                        exact (h.sub (List.sublist_append_right _ _)).rdI (xs := xat S j) 0 rfl⟩, hS10⟩
                    case measure => simp [intOf]; omega
                · rw [decide_eq_false hnq] at KH
                  have He := Lib.hid (show xat S n = xat A n by rw [Hr.out, if_neg hnq])
                  obtain ⟨ya, yc, hy⟩ := (hv0.out n hnA).sl.sh
                  generalize hyl : (iv (xat A n)).length = yl at hy
                  have Hy := Lib.hid hy
                  rw [hy] at cn
                  clear Hr Hp hnq hy hyl hone
                  go_wp2_with fail
                  refine (KH.out _ (hS.oldI Hq.out)).mono ?_
                  rintro e6 w6 ⟨rfl, rfl⟩
                  go_wp2_with (at_builtin; refine appII hS 0 rfl hN.out rfl _ _ rfl rfl _ rfl (by first | rfl | simp [Act.eval, World.size_alloc]) ?_; intro v8 w8 hS8)
                  simp only [List.set_cons_zero] at hS8
                  go_roundw
                  case rel => exact ⟨n + 1, _, N, by omega, by go_num, ⟨by rw [List.length_append, hI.out.1]; rfl, fun W h j hj => by
                    by_cases e : j < n
                    · rw [vat_app_l (by rw [hI.out.1]; exact e)]; exact hI.out.2 W h j e
                    · obtain rfl : j = n := by omega
                      have hl := hI.out.1
                      rw [vat_app_r (by rw [hl]), He.out, ← Hy.out]; exact Rn.out _ _ h⟩, hS8⟩
                  case measure => simp [intOf]; omega
              · obtain rfl : n = A.length := by omega
                have hSd := hS.drew
                have hsub : N.Sublist (row 30 u16 uo :: (N ++ LB)) := (List.sublist_append_left _ _).trans (List.sublist_cons_self _ _)
                have rR : RII wr.drew u16 uo S := ⟨hSd.rd 0 rfl, by rw [hI.out.1, Hsw.out], fun j hj => hI.out.2 _ (hSd.sub hsub) j (by rw [← Hsw.out]; exact hj)⟩
                have HTs := HTs.out
                have HRw : ∀ xs ∈ S, xs.length ≤ 1048576 := fun xs hx => by rw [HTs.three xs ((srtL_perm _).mem_iff.2 hx)]; decide
                have KS := Lib.hid (l10Sort_c u16 uo S _ rR (by rw [Hsw.out]; omega) HRw)
                have HTs := Lib.hid HTs
                have b0 := (Hbx.out _ (row 30 u16 uo :: N) hS).1
                have hS0 := hSd.sub (L' := LB) ((List.sublist_append_right N LB).trans (List.sublist_cons_self _ _))
                rw [HLB.out] at hS0
                clear rR HRw hsub hS
                go_wp2_with fail
                refine regionG (fun w' => w'.cell? ⟨w.heap.size, 0, none⟩ = some (.int .i64 P)) 5 (by kernel_rfl) (cell_dr b0) (fun hHeld => ?_)
                refine takeP (i := 0) (v := ?_) rfl (by kernel_rfl) (fun _ _ _ h => h) (by rfl) ?_ (by assumption) ?_
                case refine_2 => (intro w'; go_simp; first | done | with_reducible rfl)
                try simp only [Act.put, List.setIfInBounds_toArray, List.set_cons_zero, List.set_cons_succ]
                refine takeH (i := 1) [4] (v := ?_) rfl (by kernel_rfl) (fun _ _ _ h => h) (by rfl) ?_ (by assumption) ?_
                case refine_2 => (intro w' hSw; (try dsimp only at hSw); go_simp; first | done | with_reducible rfl)
                try simp only [Act.put, List.setIfInBounds_toArray, List.set_cons_zero, List.set_cons_succ]
                refine takeP (i := 2) (v := ?_) rfl (by kernel_rfl) (fun _ _ _ h => h) (by rfl) ?_ (by assumption) ?_
                case refine_2 => (intro w'; go_simp; first | done | with_reducible rfl)
                try simp only [Act.put, List.setIfInBounds_toArray, List.set_cons_zero, List.set_cons_succ]
                refine readyG (rs := [3]) (by kernel_rfl) (by simp) ?_
                refine AllG.cons rfl (fun K hK => ?_) AllG.nil
                go_simp
                refine KS.out.mono ?_
                clear KS
                rintro e w5 ⟨v5, us5, rfl, hl5, h5⟩
                obtain ⟨ua, uc, hv5⟩ := (h5.rd 0 (e := 30) (v := v5) (us := us5) rfl).sl.sh
                rw [hl5] at hv5
                generalize hdl : (srtL S).length = dl at hv5
                clear hdl
                subst hv5
                have hB5 := hS0.call h5
                have e0 := hB5.bcell 1 rfl 0 rfl
                have c0 := hB5.bcell 0 rfl 0 rfl
                have c1 := hB5.bcell 0 rfl 1 rfl
                have f0 := hB5.bfree 0 rfl
                refine hK.out _ _ e0 (fun hHeld => ?_)
                clear hK K
                try simp only [Act.put, List.setIfInBounds_toArray, List.set_cons_zero, List.set_cons_succ]
                refine takeP (i := 4) (v := ?_) rfl (by kernel_rfl) (fun _ _ _ h => h) (by rfl) ?_ (by assumption) ?_
                case refine_2 => (intro w'; go_simp; first | done | with_reducible rfl)
                try simp only [Act.put, List.setIfInBounds_toArray, List.set_cons_zero, List.set_cons_succ]
                refine readyG (rs := [5]) (by kernel_rfl) (by simp) ?_
                refine AllG.last rfl (by kernel_rfl) (fun K hK => ?_) AllG.nil
                go_simp
                refine hK.out _ _ ?_
                clear hK K
                try simp only [Act.put, List.setIfInBounds_toArray, List.set_cons_zero, List.set_cons_succ]
                refine readyG (rs := [6]) (by kernel_rfl) (by simp) ?_
                refine AllG.last rfl (by kernel_rfl) (fun K hK => ?_) AllG.nil
                go_simp
                refine hK.out _ _ ?_
                clear hK K
                try simp only [Act.put, List.setIfInBounds_toArray, List.set_cons_zero, List.set_cons_succ]
                refine doneG (by kernel_rfl) ?_ _
                refine NoPanic.normal ?_
                have h6 := (hB5.bstore 0 rfl 0 (.int .i64 P)).bstore 0 rfl 1 (.slice ua dl uc)
                have d0 := h6.bcell 0 rfl 0 rfl
                have d1 := h6.bcell 0 rfl 1 rfl
                clear hB5 h5 c0 c1 e0 f0 hSd
                go_wp2_with fail
                refine bodyPost_ret (v := .tuple #[.agg #[.int .i64 P, .slice ua dl uc], .int .i64 0]) (by simp [results, Tryz.results95, go_sem, d0, d1]) rfl ?_
                exact .inl ⟨srtL S, HTs.out, _, us5, rfl, hl5, h6.sub (.cons _ (.cons _ (.refl _)))⟩
end Go.Proofs.YtegmjlblehjccaaGreat
end
