/- The law FnIsotopes, walked. -/
import Derived.Test.YtpfgbbbjldpnnaaSqH
import Derived.Test.YtpfgbbbjldpnnaaEqs
namespace Go.Proofs.Ytpfgbbbjldpnnaa
set_option linter.unusedSimpArgs false
set_option linter.unusedVariables false
open Go.RowKit
attribute [local go_sem ↓] Go.wp_at_zero Go.wp_at_succ

theorem results_tmp4 {fn : Func} {t u v x : Tmp} (h : fn.results = #[.tmp t, .tmp u, .tmp v, .tmp x]) (tmps : Array Value) (P : Program) (w : World) :
    (results fn tmps).run P w = .ok (.tuple #[tmps.getD t undef, tmps.getD u undef, tmps.getD v undef, tmps.getD x undef]) w := by
  simp [results, h]
/-- small rows and three lists, in memory of their own -/
def IsoD (w : World) (e : Ending) (w' : World) : Prop := ∃ v us A vr r vc c vs s, e = .returned (.tuple #[v, vr, vc, vs]) ∧ SmA A ∧ us.length = A.length ∧ r.length ≤ 33 ∧ c.length ≤ 33 ∧ s.length ≤ 33 ∧ St w.heap.size w w' (row 2 vs (iv s) :: row 2 vc (iv c) :: row 2 vr (iv r) :: own2 v us A)
set_option maxHeartbeats 4000000 in
set_option maxRecDepth 100000 in
theorem DrawIsotope_c (w : World) (cv : Value) (bs : List UInt8) (hb : RdB w cv bs) : Calls Try.prog 19 #[cv] w (IsoD w) := by
  go_enter Try.func19, Try.ntmps19
  go_wp2_with fail
  refine (l00From_c w cv bs hb).mono ?_
  rintro e w1 ⟨rfl, h1⟩
  go_wp2_with fail
  refine (l06Draw_c w w1 cv bs _ _ _ hb h1 (by omega)).mono ?_
  rintro e w2 ⟨v, us, A, rfl, hA, hl, h2⟩
  have HA := Lib.hid hA
  have Hl := Lib.hid hl
  have hA10 := hA.len
  rw [List.append_nil] at h2
  have hln := (h2.riiS (List.Sublist.refl _) hl).len
  clear hA hl h1
  go_wp2_with fail
  refine (l04DrawPerm_c w _ cv bs _ _ _ A.length hb h2 (by omega) (by omega)).mono ?_
  rintro e w3 ⟨vr, r, rfl, rl, rp, h3⟩
  have Rl := Lib.hid rl
  clear rl rp h2
  go_wp2_with fail
  refine (l04DrawPerm_c w _ cv bs _ _ _ A.length hb h3 (by omega) (by omega)).mono ?_
  rintro e w4 ⟨vc, c, rfl, cl, cp, h4⟩
  have Cl := Lib.hid cl
  clear cl cp h3
  go_wp2_with fail
  refine (l04DrawPerm_c w _ cv bs _ _ _ A.length hb h4 (by omega) (by omega)).mono ?_
  rintro e w5 ⟨vs, s, rfl, sl, sp, h5⟩
  have Sl := Lib.hid sl
  clear sl sp h4
  go_wp2_with fail
  refine (pick_c w _ cv bs _ _ _ 12 hb h5 (by omega)).mono ?_
  rintro e w6 ⟨q, q0, q1, rfl, h6⟩
  clear h5
  by_cases e0 : q = 0
  · subst e0
    go_wp2_with fail
    refine (l04Draw_c w _ cv bs _ _ _ hb h6 (by omega)).mono ?_
    rintro e w7 ⟨u, xs, rfl, hx, h7⟩
    have h8 := ((h7.st).perm (L' := row 2 vr (iv r) :: row 2 vs (iv s) :: row 2 vc (iv c) :: row 2 u (iv xs) :: own2 v us A) (by (try simp only [own2, List.cons_append, List.nil_append, List.append_nil]); classical exact List.perm_iff_count.2 (fun a => by simp only [List.cons_append, List.nil_append, List.append_nil, List.count_append, List.count_cons, List.count_nil] <;> omega))).sub (List.sublist_cons_self _ _)
    have Hx := Lib.hid hx
    clear hx h6 h7
    go_wp2_with fail
    (try simp only [Exit.inBlock, Exit.then])
    refine bodyPost_ret (results_tmp4 rfl _ _ _) rfl ?_
    exact ⟨v, us, A, u, xs, vc, c, vs, s, rfl, HA.out, Hl.out, Hx.out, by rw [Cl.out]; omega, by rw [Sl.out]; omega, h8⟩
  · have f0 := eq_f e0
    by_cases e1 : q = 1
    · subst e1
      go_wp2_with fail
      refine (l04Draw_c w _ cv bs _ _ _ hb h6 (by omega)).mono ?_
      rintro e w7 ⟨u, xs, rfl, hx, h7⟩
      have h8 := ((h7.st).perm (L' := row 2 vc (iv c) :: row 2 vs (iv s) :: row 2 u (iv xs) :: row 2 vr (iv r) :: own2 v us A) (by (try simp only [own2, List.cons_append, List.nil_append, List.append_nil]); classical exact List.perm_iff_count.2 (fun a => by simp only [List.cons_append, List.nil_append, List.append_nil, List.count_append, List.count_cons, List.count_nil] <;> omega))).sub (List.sublist_cons_self _ _)
      have Hx := Lib.hid hx
      clear hx h6 h7
      go_wp2_with fail
      (try simp only [Exit.inBlock, Exit.then])
      refine bodyPost_ret (results_tmp4 rfl _ _ _) rfl ?_
      exact ⟨v, us, A, vr, r, u, xs, vs, s, rfl, HA.out, Hl.out, by rw [Rl.out]; omega, Hx.out, by rw [Sl.out]; omega, h8⟩
    · have f1 := eq_f e1
      by_cases e2 : q = 2
      · subst e2
        go_wp2_with fail
        refine (l04Draw_c w _ cv bs _ _ _ hb h6 (by omega)).mono ?_
        rintro e w7 ⟨u, xs, rfl, hx, h7⟩
        have h8 := ((h7.st).perm (L' := row 2 vs (iv s) :: row 2 u (iv xs) :: row 2 vc (iv c) :: row 2 vr (iv r) :: own2 v us A) (by (try simp only [own2, List.cons_append, List.nil_append, List.append_nil]); classical exact List.perm_iff_count.2 (fun a => by simp only [List.cons_append, List.nil_append, List.append_nil, List.count_append, List.count_cons, List.count_nil] <;> omega))).sub (List.sublist_cons_self _ _)
        have Hx := Lib.hid hx
        clear hx h6 h7
        go_wp2_with fail
        (try simp only [Exit.inBlock, Exit.then])
        refine bodyPost_ret (results_tmp4 rfl _ _ _) rfl ?_
        exact ⟨v, us, A, vr, r, vc, c, u, xs, rfl, HA.out, Hl.out, by rw [Rl.out]; omega, by rw [Cl.out]; omega, Hx.out, h8⟩
      · have f2 := eq_f e2
        have h8 := h6.st
        clear h6
        go_wp2_with fail
        (try simp only [Exit.inBlock, Exit.then])
        refine bodyPost_ret (results_tmp4 rfl _ _ _) rfl ?_
        exact ⟨v, us, A, vr, r, vc, c, vs, s, rfl, HA.out, Hl.out, by rw [Rl.out]; omega, by rw [Cl.out]; omega, by rw [Sl.out]; omega, h8⟩
theorem IIK.rii {w w' : World} {v : Value} {us : List Value} {A : List (List Int)} (hl : us.length = A.length) (h : St w.heap.size w w' (own2 v us A)) : RII w' v us A := h.rii hl
set_option maxHeartbeats 16000000 in
set_option maxRecDepth 100000 in
theorem FnIsotopes_law (w : World) (cv : Value) (bs : List UInt8) (cm : Value) (ms : List UInt8) (hb : RdB w cv bs) (hm : RdB w cm ms) :
    Calls Try.prog 4 #[cv, cm] w (GivesB w true) := by
  by_cases hlong : 1048576 < bs.length ∨ 1048576 < ms.length
  · by_cases h1 : 1048576 < bs.length
    · have hl' : decide (1048576 < bs.length) = true := by simpa using h1
      go_enter Try.func4, Try.ntmps4
      go_wp2_with fail
      refine (b10Long_c w cv bs hb).mono ?_
      rw [hl']
      rintro e w1 ⟨rfl, rfl⟩
      go_wp2_with fail
      go_ret
      exact ⟨rfl, St.refl _⟩
    · have hl' : decide (1048576 < bs.length) = false := by simpa using h1
      have hl2 : decide (1048576 < ms.length) = true := by simp; omega
      go_enter Try.func4, Try.ntmps4
      go_wp2_with fail
      refine (b10Long_c w cv bs hb).mono ?_
      rw [hl']
      rintro e w1 ⟨rfl, rfl⟩
      go_wp2_with (go_at_call 9; refine (b10Long_c w cm ms hm).mono ?_; rw [hl2]; rintro e w1 ⟨rfl, rfl⟩)
      go_ret
      exact ⟨rfl, St.refl _⟩
  · have hl' : decide (1048576 < bs.length) = false := by simp; omega
    have hl2 : decide (1048576 < ms.length) = false := by simp; omega
    go_enter Try.func4, Try.ntmps4
    go_wp2_with fail
    refine (b10Long_c w cv bs hb).mono ?_
    rw [hl']
    rintro e w1 ⟨rfl, rfl⟩
    go_wp2_with (go_at_call 9; refine (b10Long_c w cm ms hm).mono ?_; rw [hl2]; rintro e w1 ⟨rfl, rfl⟩)
    refine (DrawIsotope_c w cv bs hb).mono ?_
    rintro e w1 ⟨v, us, A, vr, r, vc, c, vs, s, rfl, hA, hl, hr33, hc33, hs33, h1⟩
    have rA := (h1.sub (L' := own2 v us A) ((((List.Sublist.refl _).cons _).cons _).cons _)).rii hl
    have rr := h1.rdI 2 rfl
    have rc := h1.rdI 1 rfl
    have rs := h1.rdI 0 rfl
    have rm := hm.keep h1.below
    have hT0 := h1.out
    have hA10 := hA.len
    have HN := Lib.hid (show ∀ x, x < A.length → (xat A x).length ≤ 1048576 from fun x hx => by have := hA.row x hx; omega)
    have hln := rA.len
    clear h1 hA hl
    have KS := fun W a => Lib.hid (sValidSquare_c v us A W a)
    cases hL : latB A
    · have K1 := fun W a => Lib.hid (Isotope_no1 v vr vc vs us A W a HN.out hL)
      rw [hL] at KS
      clear hL
      go_wp2_with fail
      refine (K1 _ rA).out.mono ?_
      rintro e w2 ⟨vb, ub, rfl, hlb, h2⟩
      have rA := rA.keep h2.below
      have hT1 := hT0.call0 h2.out
      clear hlb h2
      go_wp2_with fail
      refine (KS _ rA).out.mono ?_
      rintro e w3 ⟨rfl, h3⟩
      have hT2 := hT1.call0 h3
      go_wp2_with fail
      go_ret
      exact ⟨rfl, hT2⟩
    · rw [hL] at KS
      have HL := Lib.hid (latB_t hL)
      cases hp : pv3 A.length r c s
      · have K1 := fun W a b c' d => Lib.hid (Isotope_no2 v vr vc vs us A r c s W a b c' d hL (by omega) (by omega) (by omega) hp)
        clear hL hp
        go_wp2_with fail
        refine (K1 _ rA rr rc rs).out.mono ?_
        rintro e w2 ⟨vb, ub, rfl, hlb, h2⟩
        have rA := rA.keep h2.below
        have hT1 := hT0.call0 h2.out
        clear hlb h2
        go_wp2_with fail
        refine (KS _ rA).out.mono ?_
        rintro e w3 ⟨rfl, h3⟩
        have hT2 := hT1.call0 h3
        go_wp2_with fail
        go_ret
        exact ⟨rfl, hT2⟩
      · have K1 := fun W a b c' d => Lib.hid (Isotope_yes v vr vc vs us A r c s W a b c' d hL (by omega) (by omega) (by omega) hp)
        obtain ⟨⟨lr, pr⟩, ⟨lc, pc⟩, ⟨ls, ps⟩⟩ := pv3_t hp
        have n1 := HL.out.pos
        have h0 := HL.out.sq0
        have LB := HL.out.iso pr pc ps lr lc ls
        have LBn := isoL_len A r c s
        have Hinv := Lib.hid (isoL_inv h0 pr pc ps lr lc ls)
        have Hcmp := fun q (hq : IsP q) (hql : q.length = A.length) => Lib.hid (isoL_comp (r' := q) (c' := q) (s' := q) h0 pr pc lr lc ls hq hq hql hql)
        have Hq := Lib.hid (And.intro (And.intro lr pr) (And.intro (And.intro lc pc) (And.intro ls ps)))
        have HLB := Lib.hid LB
        have HBn := Lib.hid LBn
        have xr := Lib.hid (pvB_yes (xs := r) (by omega) pr)
        have xc := Lib.hid (pvB_yes (xs := c) (by omega) pc)
        have xs' := Lib.hid (pvB_yes (xs := s) (by omega) ps)
        obtain ⟨B, hB⟩ : ∃ B, B = isoL A r c s := ⟨_, rfl⟩
        rw [← hB] at K1 Hinv Hcmp HLB HBn
        clear hB LB LBn lr pr lc pc ls ps h0 hp hL
        go_wp2_with fail
        refine (K1 _ rA rr rc rs).out.mono ?_
        rintro e w2 ⟨vb, ub, rfl, hlb, h2⟩
        have rA := rA.keep h2.below
        have rr := rr.keep h2.below
        have rc := rc.keep h2.below
        have rs := rs.keep h2.below
        have rm := rm.keep h2.below
        have rB := h2.rii hlb
        have hT1 := hT0.call0 h2.out
        clear hlb h2 hT0 K1
        go_wp2_with fail
        refine (b10Perm_c _ cm ms A.length rm (by omega)).mono ?_
        rintro e w3 ⟨vq, q, rfl, hql, hqp, h3⟩
        have rA := rA.keep h3.below
        have rr := rr.keep h3.below
        have rc := rc.keep h3.below
        have rs := rs.keep h3.below
        have rB := rB.keep h3.below
        have rq := h3.rdI 0 rfl
        have hT2 := hT1.call0 h3.out
        have pq := pvB_yes (xs := q) (by omega) hqp
        have K3 := fun W a b => Lib.hid (Isotope_yes vb vq vq vq ub B q q q W a b b b (latB_yes HLB.out) (by omega) (by omega) (by omega) (pv3_of (by rw [HBn.out]; omega) ⟨by rw [HBn.out]; exact hql, hqp⟩ ⟨by rw [HBn.out]; exact hql, hqp⟩ ⟨by rw [HBn.out]; exact hql, hqp⟩))
        rw [(Hcmp q hqp hql).out] at K3
        have C1 := cmC_0 xr.out pq (by rw [Hq.out.1.1, hql])
        have C2 := cmC_0 xc.out pq (by rw [Hq.out.2.1.1, hql])
        have C3 := cmC_0 xs'.out pq (by rw [Hq.out.2.2.1, hql])
        have K4 := fun W a b => Lib.hid (Compose_c vr vq r q W a b (by omega) (by omega))
        rw [C1, cmV_yes C1] at K4
        have K5 := fun W a b => Lib.hid (Compose_c vc vq c q W a b (by omega) (by omega))
        rw [C2, cmV_yes C2] at K5
        have K6 := fun W a b => Lib.hid (Compose_c vs vq s q W a b (by omega) (by omega))
        rw [C3, cmV_yes C3] at K6
        have y1 : (cmpL r q).length = A.length ∧ IsP (cmpL r q) := ⟨by rw [cmpL_len]; exact Hq.out.1.1, Hq.out.1.2.cmp hqp (by rw [Hq.out.1.1, hql])⟩
        have y2 : (cmpL c q).length = A.length ∧ IsP (cmpL c q) := ⟨by rw [cmpL_len]; exact Hq.out.2.1.1, Hq.out.2.1.2.cmp hqp (by rw [Hq.out.2.1.1, hql])⟩
        have y3 : (cmpL s q).length = A.length ∧ IsP (cmpL s q) := ⟨by rw [cmpL_len]; exact Hq.out.2.2.1, Hq.out.2.2.2.cmp hqp (by rw [Hq.out.2.2.1, hql])⟩
        have K7 := fun W u1 u2 u3 a b c' d => Lib.hid (Isotope_yes v u1 u2 u3 us A (cmpL r q) (cmpL c q) (cmpL s q) W a b c' d (latB_yes HL.out) (by rw [y1.1]; omega) (by rw [y2.1]; omega) (by rw [y3.1]; omega) (pv3_of (by omega) y1 y2 y3))
        have K8 := fun W a => Lib.hid (InvertPermutation_c vr r W a (by omega) xr.out)
        have K9 := fun W a => Lib.hid (InvertPermutation_c vc c W a (by omega) xc.out)
        have K10 := fun W a => Lib.hid (InvertPermutation_c vs s W a (by omega) xs'.out)
        have z1 : (invL r).length = B.length ∧ IsP (invL r) := ⟨by rw [invL_len, HBn.out]; exact Hq.out.1.1, Hq.out.1.2.inv⟩
        have z2 : (invL c).length = B.length ∧ IsP (invL c) := ⟨by rw [invL_len, HBn.out]; exact Hq.out.2.1.1, Hq.out.2.1.2.inv⟩
        have z3 : (invL s).length = B.length ∧ IsP (invL s) := ⟨by rw [invL_len, HBn.out]; exact Hq.out.2.2.1, Hq.out.2.2.2.inv⟩
        have K11 := fun W u1 u2 u3 a b c' d => Lib.hid (Isotope_yes vb u1 u2 u3 ub B (invL r) (invL c) (invL s) W a b c' d (latB_yes HLB.out) (by rw [z1.1, HBn.out]; omega) (by rw [z2.1, HBn.out]; omega) (by rw [z3.1, HBn.out]; omega) (pv3_of (by rw [HBn.out]; omega) z1 z2 z3))
        rw [Hinv.out] at K11
        have K12 := fun W a => Lib.hid (ValidSquare_c vb ub B W a (fun x hx => by rw [HLB.out.len x hx, HBn.out]; omega))
        rw [latB_yes HLB.out] at K12
        generalize isoL A (cmpL r q) (cmpL c q) (cmpL s q) = X at *
        have K13 := fun W u1 t1 u2 t2 a b => Lib.hid (b10Lists_c u1 u2 t1 t2 X X W a b)
        rw [show decide (X = X) = true from decide_eq_true rfl] at K13
        have K14 := fun W u1 t1 a b => Lib.hid (b10Lists_c u1 v t1 us A A W a b)
        rw [show decide (A = A) = true from decide_eq_true rfl] at K14
        generalize cmpL r q = r1 at *
        generalize cmpL c q = c1 at *
        generalize cmpL s q = s1 at *
        generalize invL r = r2 at *
        generalize invL c = c2 at *
        generalize invL s = s2 at *
        clear hql hqp h3 hT1 pq C1 C2 C3 y1 y2 y3 z1 z2 z3 Hcmp Hinv
        go_wp2_with fail
        refine (K3 _ rB rq).out.mono ?_
        rintro e w4 ⟨vx, ux, rfl, hlx, h4⟩
        have rA := rA.keep h4.below
        have rr := rr.keep h4.below
        have rc := rc.keep h4.below
        have rs := rs.keep h4.below
        have rB := rB.keep h4.below
        have rq := rq.keep h4.below
        have rX := h4.rii hlx
        have hT3 := hT2.call0 h4.out
        clear hlx h4 hT2 K3
        go_wp2_with fail
        refine (K4 _ rr rq).out.mono ?_
        rintro e w5 ⟨v1, rfl, h5⟩
        have rA := rA.keep h5.below
        have rr := rr.keep h5.below
        have rc := rc.keep h5.below
        have rs := rs.keep h5.below
        have rB := rB.keep h5.below
        have rq := rq.keep h5.below
        have rX := rX.keep h5.below
        have r1' := h5.rdI 0 rfl
        have hT4 := hT3.call0 h5.out
        clear h5 hT3 K4
        go_wp2_with fail
        refine (K5 _ rc rq).out.mono ?_
        rintro e w6 ⟨v2, rfl, h6⟩
        have rA := rA.keep h6.below
        have rr := rr.keep h6.below
        have rc := rc.keep h6.below
        have rs := rs.keep h6.below
        have rB := rB.keep h6.below
        have rq := rq.keep h6.below
        have rX := rX.keep h6.below
        have r1' := r1'.keep h6.below
        have r2' := h6.rdI 0 rfl
        have hT5 := hT4.call0 h6.out
        clear h6 hT4 K5
        go_wp2_with fail
        refine (K6 _ rs rq).out.mono ?_
        rintro e w7 ⟨v3, rfl, h7⟩
        have rA := rA.keep h7.below
        have rr := rr.keep h7.below
        have rc := rc.keep h7.below
        have rs := rs.keep h7.below
        have rB := rB.keep h7.below
        have rX := rX.keep h7.below
        have r1' := r1'.keep h7.below
        have r2' := r2'.keep h7.below
        have r3' := h7.rdI 0 rfl
        have hT6 := hT5.call0 h7.out
        clear h7 hT5 K6
        go_wp2_with fail
        refine (K7 _ _ _ _ rA r1' r2' r3').out.mono ?_
        rintro e w8 ⟨vy, uy, rfl, hly, h8⟩
        have rA := rA.keep h8.below
        have rr := rr.keep h8.below
        have rc := rc.keep h8.below
        have rs := rs.keep h8.below
        have rB := rB.keep h8.below
        have rX := rX.keep h8.below
        have rY := h8.rii hly
        have hT7 := hT6.call0 h8.out
        clear h8 hly hT6 K7 r1' r2' r3'
        go_wp2_with fail
        refine (K8 _ rr).out.mono ?_
        rintro e w9 ⟨v4, rfl, h9⟩
        have rA := rA.keep h9.below
        have rc := rc.keep h9.below
        have rs := rs.keep h9.below
        have rB := rB.keep h9.below
        have rX := rX.keep h9.below
        have rY := rY.keep h9.below
        have r1' := h9.rdI 0 rfl
        have hT8 := hT7.call0 h9.out
        clear h9 hT7 K8
        go_wp2_with fail
        refine (K9 _ rc).out.mono ?_
        rintro e w10 ⟨v5, rfl, h10⟩
        have rA := rA.keep h10.below
        have rs := rs.keep h10.below
        have rB := rB.keep h10.below
        have rX := rX.keep h10.below
        have rY := rY.keep h10.below
        have r1' := r1'.keep h10.below
        have r2' := h10.rdI 0 rfl
        have hT9 := hT8.call0 h10.out
        clear h10 hT8 K9
        go_wp2_with fail
        refine (K10 _ rs).out.mono ?_
        rintro e w11 ⟨v6, rfl, h11⟩
        have rA := rA.keep h11.below
        have rB := rB.keep h11.below
        have rX := rX.keep h11.below
        have rY := rY.keep h11.below
        have r1' := r1'.keep h11.below
        have r2' := r2'.keep h11.below
        have r3' := h11.rdI 0 rfl
        have hT10 := hT9.call0 h11.out
        clear h11 hT9 K10
        go_wp2_with fail
        refine (K11 _ _ _ _ rB r1' r2' r3').out.mono ?_
        rintro e w12 ⟨vz, uz, rfl, hlz, h12⟩
        have rA := rA.keep h12.below
        have rB := rB.keep h12.below
        have rX := rX.keep h12.below
        have rY := rY.keep h12.below
        have rZ := h12.rii hlz
        have hT11 := hT10.call0 h12.out
        clear h12 hlz hT10 K11
        go_wp2_with fail
        refine (K12 _ rB).out.mono ?_
        rintro e w13 ⟨rfl, h13⟩
        have rA := rA.keep h13.below
        have rX := rX.keep h13.below
        have rY := rY.keep h13.below
        have rZ := rZ.keep h13.below
        have hT12 := hT11.call0 h13
        clear h13 hT11 K12
        go_wp2_with (first
          | (have hz := hT13; clear hz; go_at_call 24; refine (K14 _ _ _ rZ1 rA1).out.mono ?_; rintro e w15 ⟨rfl, h15⟩; have hT14 := hT13.call0 h15)
          | (go_at_call 24; refine (K13 _ _ _ _ _ rX rY).out.mono ?_; rintro e w14 ⟨rfl, h14⟩; have rZ1 := rZ.keep h14.below; have rA1 := rA.keep h14.below; have hT13 := hT12.call0 h14; clear h14))
        go_ret
        exact ⟨rfl, hT14⟩
end Go.Proofs.Ytpfgbbbjldpnnaa
