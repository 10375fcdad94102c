/- Walks: DeriveArray of both sides. -/
import Derived.Test.YtcenabaklokhhaaFull2
import Derived.Test.YtcenabaklokhhaaCopy
import Derived.IntWalk
namespace Go.Proofs.Ytcenabaklokhhaa
set_option linter.unusedSimpArgs false
set_option linter.unusedVariables false
open Go.RowKit

def derGood (lv co : Int) (xss : List (List Int)) (c x : Int) : Bool := okA lv co xss && inB c 0 (co - 1) && inB x 0 (lv - 1) && decide (co ≠ 1)
def derRow (c : Nat) (xs : List Int) : List Int := xs.take c ++ xs.drop (c + 1)
def derRows (c : Nat) (x : Int) (xss : List (List Int)) : List (List Int) := (xss.filter fun xs => nth xs c == x).map (derRow c)
def derA (lv co : Int) (xss : List (List Int)) (c x : Int) : AV := if derGood lv co xss c x = true then ⟨lv, co - 1, derRows c.toNat x xss⟩ else noA
def derC (lv co : Int) (xss : List (List Int)) (c x : Int) : Int := if okA lv co xss = false then 1 else if inB c 0 (co - 1) = false ∨ inB x 0 (lv - 1) = false then 2 else if co = 1 then 6 else 0

theorem okA_t {lv co : Int} {xss : List (List Int)} (h : okA lv co xss = true) : shapeB lv co = true ∧ xss.length ≤ 256 ∧ ∀ xs ∈ xss, (xs.length : Int) = co ∧ ∀ x ∈ xs, 0 ≤ x ∧ x ≤ lv - 1 := by
  simp only [okA, Bool.and_eq_true, decide_eq_true_eq, List.all_eq_true] at h
  refine ⟨h.1.1, h.1.2, fun xs hx => ?_⟩
  have := h.2 xs hx
  simp only [rowOk, Bool.and_eq_true, decide_eq_true_eq, anyP, Bool.not_eq_true', List.any_eq_false] at this
  refine ⟨this.1, fun x hx => ?_⟩
  have := this.2 x hx
  simpa [inB] using this

theorem derRows_snoc {c : Nat} {x : Int} {xss : List (List Int)} {k : Nat} (hk : k < xss.length) :
    derRows c x (xss.take (k + 1)) = if nth (xat xss k) c == x then derRows c x (xss.take k) ++ [derRow c (xat xss k)] else derRows c x (xss.take k) := by
  rw [take_xat hk, derRows, derRows, List.filter_append, List.map_append]
  by_cases h : (nth (xat xss k) c == x) = true
  · rw [if_pos h]; simp [h]
  · rw [if_neg h]; simp [h]

theorem rvv_two {w : World} {v1 v2 : Value} {us1 us2 : List Value} (h1 : Rd w v1 us1) (h2 : Rd w v2 us2) (T : TypeId) :
    RVV (w.alloc (.cells #[v1, v2] T)) (.slice (some ⟨w.heap.size, 0, none⟩) 2 2) [v1, v2] [us1, us2] := by
  have hb : Below w.heap.size w (w.alloc (.cells #[v1, v2] T)) := ((St.refl w).alloc' _).below
  refine ⟨⟨⟨_, _, rfl, by simp, by unfold maxLen; omega, .inr (by simp)⟩, ?_⟩, rfl, ?_⟩
  · intro i u hu
    match i, hu with
    | 0, hu => simp at hu; subst hu; simp [el, add_mk]
    | 1, hu => simp at hu; subst hu; simp [el, add_mk]
  · intro j hj
    match j, hj with
    | 0, _ => exact h1.keep hb
    | 1, _ => exact h2.keep hb

theorem RdI.shp {w : World} {v : Value} {xs : List Int} (h : RdI w v xs) (n : Nat) (hn : xs.length = n) : ∃ a c, v = .slice a n c := by
  obtain ⟨a, c, hv⟩ := h.sl.sh
  rw [iv_len, hn] at hv
  exact ⟨a, c, hv⟩
theorem concat2_c {v v1 v2 : Value} {xs ys : List Int} {w : World} (h : RVV w v [v1, v2] [iv xs, iv ys]) (hN : xs.length + ys.length ≤ 1048576) :
    Calls Try.prog 140 #[v] w (MakesI w (xs ++ ys)) := by
  refine (ConcatI_c _ _ _ _ h ?_ ?_).mono ?_
  · intro us hus u hu
    simp only [List.mem_cons, List.not_mem_nil, or_false] at hus
    rcases hus with rfl | rfl <;> (simp only [iv, List.mem_map] at hu; obtain ⟨n, _, rfl⟩ := hu; rfl)
  · simp [totV, iv_len]; omega
  · rintro e w' ⟨v, rfl, h⟩
    exact ⟨v, rfl, by simpa [iv_app] using h⟩

set_option maxHeartbeats 4000000 in
set_option maxRecDepth 100000 in
theorem DeriveArray_c (lv co c x : Int) (v : Value) (us : List Value) (xss : List (List Int)) (w : World) (hv : RII w v us xss) :
    Calls Try.prog 46 #[av lv co v, .int .i64 c, .int .i64 x] w (MakesA w (derA lv co xss c x) (derC lv co xss c x)) := by
  have hS0 := ((St.refl w).newboxF 47 #[.int .i64 lv, .int .i64 co, v]).newboxF 47 #[.int .i64 0, .int .i64 0, .slice none 0 0]
  simp only [World.size_alloc] at hS0
  have HV := fun w => Lib.hid (ValidArray_c lv co v us xss w)
  unfold av at HV ⊢
  go_enter Try.func46, Try.ntmps46
  go_wp2_with fail
  refine ((HV _).out (hS0.oldII hv)).mono ?_
  rintro e w1 ⟨rfl, h1⟩
  have hS1 := hS0.call0 h1
  clear hS0 h1 HV
  have b0 := hS1.bcell 0 rfl 0 rfl
  have b1 := hS1.bcell 0 rfl 1 rfl
  have b2 := hS1.bcell 0 rfl 2 rfl
  have c0 := hS1.bcell 1 rfl 0 rfl
  have c1 := hS1.bcell 1 rfl 1 rfl
  have c2 := hS1.bcell 1 rfl 2 rfl
  have f0 := hS1.bfree 0 rfl
  have t0 := (hS1.blt 0 rfl).2
  have t1 := (hS1.blt 1 rfl).2
  have hS9 := ((hS1.bstore 0 rfl 0 (.int .i64 0)).bstore 0 rfl 1 (.int .i64 0)).bstore 0 rfl 2 (.slice none 0 0)
  cases hok : okA lv co xss
  · go_wp2_with fail
    refine bodyPost_ret (v := .tuple #[.agg #[.int .i64 0, .int .i64 0, .slice none 0 0], .int .i64 1]) (by simp [results, Try.results46, go_sem, b0, b1, b2]) rfl ?_
    exact MakesA.no (by simp [derA, derGood, hok]) (by simp [derC, hok]) hS9
  · obtain ⟨hsh, hlen, hrow⟩ := okA_t hok
    obtain ⟨l1, l2, k1, k2⟩ := shapeB_t hsh
    have Hok := Lib.hid hok
    have Hrow := Lib.hid hrow
    clear hok hrow hsh
    cases hc : inB c 0 (co - 1)
    · go_wp2_with (go_at_call 134; refine (within_c _ _ _ _).mono ?_; rintro e w3 ⟨rfl, rfl⟩)
      refine bodyPost_ret (v := .tuple #[.agg #[.int .i64 0, .int .i64 0, .slice none 0 0], .int .i64 2]) (by simp [results, Try.results46, go_sem, b0, b1, b2]) rfl ?_
      exact MakesA.no (by simp [derA, derGood, hc]) (by simp [derC, hc, Hok.out]) hS9
    · cases hx : inB x 0 (lv - 1)
      · go_wp2_with (go_at_call 134; refine (within_c _ _ _ _).mono ?_; rintro e w3 ⟨rfl, rfl⟩)
        refine bodyPost_ret (v := .tuple #[.agg #[.int .i64 0, .int .i64 0, .slice none 0 0], .int .i64 2]) (by simp [results, Try.results46, go_sem, b0, b1, b2]) rfl ?_
        exact MakesA.no (by simp [derA, derGood, hx]) (by simp [derC, hc, hx, Hok.out]) hS9
      · obtain ⟨q0, q1⟩ : 0 ≤ c ∧ c ≤ co - 1 := by simpa [inB] using hc
        obtain ⟨x0, x1⟩ : 0 ≤ x ∧ x ≤ lv - 1 := by simpa [inB] using hx
        by_cases h1 : co = 1
        · have f1 := eq_t h1
          have H1 := Lib.hid h1; clear h1
          go_wp2_with (go_at_call 134; refine (within_c _ _ _ _).mono ?_; rintro e w3 ⟨rfl, rfl⟩)
          refine bodyPost_ret (v := .tuple #[.agg #[.int .i64 0, .int .i64 0, .slice none 0 0], .int .i64 6]) (by simp [results, Try.results46, go_sem, b0, b1, b2]) rfl ?_
          exact MakesA.no (by simp [derA, derGood, H1.out]) (by rw [derC, if_neg (by rw [Hok.out]; simp), if_neg (by simp [hc, hx]), if_pos H1.out]) hS9
        · have f1 := eq_f h1
          have H1 := Lib.hid h1; clear h1
          have HA := Lib.hid (show derA lv co xss c x = ⟨lv, co - 1, derRows c.toNat x xss⟩ by rw [derA, if_pos]; simp [derGood, hc, hx, Hok.out, H1.out])
          have HC := Lib.hid (show derC lv co xss c x = 0 by rw [derC, if_neg (by rw [Hok.out]; simp), if_neg (by simp [hc, hx]), if_neg H1.out])
          have Hc := Lib.hid hc; clear hc
          have Hx := Lib.hid hx; clear hx
          obtain ⟨cn, rfl⟩ : ∃ n : Nat, c = n := ⟨c.toNat, by omega⟩
          rw [Int.toNat_natCast] at HA
          have hlv := (hS1.oldII hv).len
          have hix := hv.ix
          have Gc : inB (cn : Int) 0 (co - 1) = true := Hc.out
          have Gx : inB x 0 (lv - 1) = true := Hx.out
          go_wp2_with (go_at_call 134; refine (within_c _ _ _ _).mono ?_; rintro e w3 ⟨rfl, rfl⟩)
          clear Gc Gx
          have hS2 := (hS1.newboxF 47 #[.int .i64 lv, .int .i64 (co - 1), .slice none 0 0]).nilrow 23
          simp only [List.cons_append, List.nil_append] at hS2
          have hln := hv.len
          clear b0 b1 b2 f0 t0 t1 hS9
          go_loopw [10, 46] (fun _ i wr => ∃ (k m : Nat) (a : Option Addr) (d : Nat) (us' : List Value), k ≤ xss.length ∧ i = .int .i64 k ∧ m ≤ k ∧ Hid (us'.length = m) ∧ Hid ((derRows cn x (xss.take k)).length = m) ∧ St w.heap.size w wr (box 47 w1.heap.size [.int .i64 lv, .int .i64 (co - 1), .slice a m d] :: box 47 (w.heap.size + 1) [.int .i64 0, .int .i64 0, .slice none 0 0] :: box 47 w.heap.size [.int .i64 lv, .int .i64 co, v] :: own2 (.slice a m d) us' (derRows cn x (xss.take k)))) (fun _ i _ => xss.length - (intOf i).toNat)
          case atStart => exact ⟨0, 0, none, 0, [], by omega, rfl, by omega, rfl, rfl, hS2⟩
          case round =>
            obtain ⟨k, m, a, d, us', hk, rfl, hmk, hl, hl2, hS⟩ := hrel
            by_cases hlt : k < xss.length
            · have hck := (hS.oldII hv).cell k hlt
              have hr := (hS.oldII hv).row k hlt
              have Hlen := Lib.hid (Hrow.out _ (xat_mem hlt)).1
              have hcn : cn < (xat xss k).length := by have := Hlen.out; omega
              have hx1 := hr.ixe cn cn rfl hcn
              have hx2 := hr.cell cn hcn
              have hsn := Lib.hid (derRows_snoc (c := cn) (x := x) hlt)
              cases he : (nth (xat xss k) cn == x)
              · go_wp2_with fail
                go_roundw
                case rel =>
                  have e : derRows cn x (xss.take (k + 1)) = derRows cn x (xss.take k) := by rw [hsn.out, he]; rfl
                  exact ⟨k + 1, m, a, d, us', by omega, by go_num, by omega, hl, by rw [e]; exact hl2, by rw [e]; exact hS⟩
                case measure => simp [intOf]; omega
              · have hc1 := rsl_hi hr cn (by omega)
                have hc2 := rsl_lo hr (cn + 1) (by omega)
                have r1 : RdI wr (rsl (vat us k) 0 cn) ((xat xss k).take cn) := by have := rsl_rd hr (lo := 0) (hi := cn) (by omega) (by omega); rwa [List.drop_zero] at this
                have r2 : RdI wr (rsl (vat us k) (cn + 1) (xat xss k).length) ((xat xss k).drop (cn + 1)) := by have := rsl_rd hr (lo := cn + 1) (hi := (xat xss k).length) (by omega) (by omega); rwa [List.take_length] at this
                obtain ⟨a1, d1, e1⟩ := r1.shp cn (by simp; omega)
                obtain ⟨a2, d2, e2⟩ := r2.shp ((xat xss k).length - (cn + 1)) (by simp)
                rw [e1] at hc1 r1
                rw [e2] at hc2 r2
                clear e1 e2
                have hw1 := IntWalk.i64_in ((cn : Int) + 1) (by omega)
                push_cast at hc2
                have hcat := Lib.hid (concat2_c ((rvv_two r1 r2 23).keep (St.refl _).drew.below) (by simp; have := Hlen.out; omega))
                have hm4 : m < 4294967296 := by omega
                have b2 := hS.bcell 0 rfl 2 rfl
                have b2' := hS.drew.bcell 0 rfl 2 rfl
                have b2q := (hS.alloc' (.cells #[.slice a1 cn d1, .slice a2 ((xat xss k).length - (cn + 1)) d2] 23)).bcell 0 rfl 2 rfl
                go_wp2_with fail
                go_region_law (first
                  | (refine stepII hS3 3 rfl (by rw [hl.out]; exact hm4) rfl (.tmp 57) (.tmp 67) rfl (by simp [Act.eval, Act.put]) _ hsl.one (by simp [Act.eval, Act.put]) ?_; intro v' w4 hS4; obtain ⟨va, vc, hv'⟩ := (hS4.rd 3 rfl).sl.sh; rw [List.length_append, hl.out, List.length_singleton] at hv'; subst hv'; have d2 := hS4.bcell 0 rfl 2 rfl; have f2 := hS4.bfree 0 rfl 2)
                  | (go_simp; go_at_call 140; refine hcat.out.mono ?_; rintro e w3 ⟨u, rfl, h3⟩; have hr3 : RdI w3 u (derRow cn (xat xss k)) := h3.rdI 0 rfl; have hsl := hr3.sl; obtain ⟨ua, uc, hu⟩ := hr3.shp _ rfl; subst hu; have hS3 := ((hS.alloc' _).drew).call h3; have b3 := hS3.bcell 0 rfl 2 rfl; have d3 := (hS3.alloc' (.cells #[.slice ua (derRow cn (xat xss k)).length uc] 23)).bcell 0 rfl 2 rfl))
                all_goals
                  go_wp2_with fail
                  go_roundw
                  case rel =>
                    have e : derRows cn x (xss.take (k + 1)) = derRows cn x (xss.take k) ++ [derRow cn (xat xss k)] := by rw [hsn.out, he]; rfl
                    refine ⟨k + 1, m + 1, va, vc, us' ++ [.slice ua (derRow cn (xat xss k)).length uc], by omega, by go_num, by omega, by simp [Hid, hl.out], by rw [e]; simp [Hid, hl2.out], ?_⟩
                    rw [e, own2, rowsI_app (by rw [hl.out, hl2.out])]
                    have hS5 := hS4.bstore 0 rfl 2 (.slice va (m + 1) vc)
                    exact hS5.perm (by
                      simp only [List.set_cons_zero, List.set_cons_succ, List.cons_append, own2]
                      exact List.Perm.refl _)
                  case measure => simp [intOf]; omega
            · obtain rfl : k = xss.length := by omega
              rw [List.take_length] at hS hl2
              have b0 := hS.bcell 0 rfl 0 rfl
              have b1 := hS.bcell 0 rfl 1 rfl
              have b2 := hS.bcell 0 rfl 2 rfl
              have c0 := hS.bcell 1 rfl 0 rfl
              have c1 := hS.bcell 1 rfl 1 rfl
              have c2 := hS.bcell 1 rfl 2 rfl
              have f1 := hS.bfree 1 rfl
              go_wp2_with fail
              have hS9 := ((hS.bstore 1 rfl 0 (.int .i64 lv)).bstore 1 rfl 1 (.int .i64 (co - 1))).bstore 1 rfl 2 (.slice a m d)
              refine bodyPost_ret (v := .tuple #[.agg #[.int .i64 lv, .int .i64 (co - 1), .slice a m d], .int .i64 0]) (by simp [results, Try.results46, go_sem, c0, c1, c2]) rfl ?_
              exact MakesA.yes HA.out HC.out (by rw [hl.out, hl2.out]) ((((List.Sublist.refl _).cons _).cons _).cons _) hS9
end Go.Proofs.Ytcenabaklokhhaa
