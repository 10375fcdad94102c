/- Walks: what the laws on matrices over fields draw. Walks: matrices over fields that are drawn. -/
import Derived.Test.YtcenabaklokhhaaMf
import Derived.Test.YtcenabaklokhhaaRS
import Derived.Test.YtcenabaklokhhaaDrw
import Derived.Test.YtcenabaklokhhaaSrc2
import Derived.Test.YtcenabaklokhhaaMrk
import Derived.Deep.RegionHeld3
import Derived.Deep.DrawnRows
namespace Go.Proofs.Ytcenabaklokhhaa
set_option linter.unusedSimpArgs false
set_option linter.unusedVariables false
open Go.RowKit
attribute [local go_sem ↓] Go.wp_at_zero Go.wp_at_succ


theorem Src.boxF {w0 w : World} {cv : Value} {g K : Nat} {L : List Ent} (h : Src w0 w cv g K L) (i : Nat) {e : TypeId} {gf : Nat} {p d : Int} {v : Value} (hi : L[i]? = some (Go.Proofs.Ytcenabaklokhhaa.box e gf [.int .i64 p, .int .i64 d, v])) : BoxF w gf p d v :=
  ⟨h.box i hi 0 rfl, h.box i hi 1 rfl, h.box i hi 2 rfl⟩
/-- one of some numbers that are written out, behind new blocks -/
theorem among_at (xs : List Int) (gb n : Nat) (w0 w : World) (cv : Value) (bs : List UInt8) (g K : Nat) (L : List Ent) (hb : RdB w0 cv bs) (h : Src w0 w cv g K L) (hne : 0 < xs.length ∧ xs.length ≤ 1000)
    (hK : K < 1000000000000) (hgb : gb = w.heap.size) (hn : n = xs.length) :
    Calls Try.prog 132 #[.pointer (some ⟨g, 0, none⟩), .slice (some ⟨gb, 0, none⟩) n n] (w.alloc (.cells (iv xs).toArray 2)) (AmongPost xs fun w' => Src w0 w' cv g (K + 2) L) := by
  subst hgb; subst hn
  exact among_lit xs w0 w cv bs g K L hb h hne hK
/-- the numbers of elements that are drawn -/
theorem qs17_check : ([2, 2, 3, 4, 5, 7, 8, 9] : List Nat).all (fun q => decide (2 ≤ q) && decide (q ≤ 9) && ((spl q).1 != 0)) = true := by decide +kernel
theorem qs17_ok {x : Int} (h : x ∈ ([2, 2, 3, 4, 5, 7, 8, 9] : List Int)) : ∃ q : Nat, x = q ∧ 2 ≤ q ∧ q ≤ 9 ∧ MK q := by
  have key : ∀ q : Nat, q ∈ ([2, 2, 3, 4, 5, 7, 8, 9] : List Nat) → 2 ≤ q ∧ q ≤ 9 ∧ MK q := fun q hq => by
    have := List.all_eq_true.1 qs17_check q hq
    simp only [Bool.and_eq_true, decide_eq_true_eq, bne_iff_ne, ne_eq] at this
    exact ⟨this.1.1, this.1.2, mk_of this.1.1 (by omega) this.2⟩
  have hx : ∃ q : Nat, q ∈ ([2, 2, 3, 4, 5, 7, 8, 9] : List Nat) ∧ x = q := by
    simp only [List.mem_cons, List.not_mem_nil, or_false] at h
    rcases h with rfl | rfl | rfl | rfl | rfl | rfl | rfl | rfl
    · exact ⟨2, by simp, rfl⟩
    · exact ⟨2, by simp, rfl⟩
    · exact ⟨3, by simp, rfl⟩
    · exact ⟨4, by simp, rfl⟩
    · exact ⟨5, by simp, rfl⟩
    · exact ⟨7, by simp, rfl⟩
    · exact ⟨8, by simp, rfl⟩
    · exact ⟨9, by simp, rfl⟩
  obtain ⟨q, hq, rfl⟩ := hx
  obtain ⟨a, b, c⟩ := key q hq
  exact ⟨q, rfl, a, b, c⟩

/-- a field, and the source goes on -/
def FldS (w0 : World) (cv : Value) (g K : Nat) (L : List Ent) (e : Ending) (w' : World) : Prop :=
  ∃ (p : Int) (D : Nat) (v : Value) (fs : List Int), e = .returned (fv p D v) ∧ FV p D fs ∧ Src w0 w' cv g K (L ++ [row 2 v (iv fs)])

set_option maxHeartbeats 1000000 in
set_option maxRecDepth 100000 in
theorem l17DrawField_c (w0 w : World) (cv : Value) (bs : List UInt8) (g K : Nat) (L : List Ent) (hb : RdB w0 cv bs) (h : Src w0 w cv g K L) (hK : K < 100000000000) :
    Calls Try.prog 98 #[.pointer (some ⟨g, 0, none⟩)] w (FldS w0 cv g (K + 2) L) := by
  have h0 := h.newboxF 25 #[.int .i64 0, .int .i64 0, .slice none 0 0]
  go_enter Try.func98, Try.ntmps98
  go_wp2_with fail
  refine (among_at [2, 2, 3, 4, 5, 7, 8, 9] _ _ w0 _ cv bs g _ _ hb h0 (by decide) (by omega) (by simp) rfl).mono ?_
  rintro e w2 ⟨y, hy, rfl, h2⟩
  obtain ⟨q, rfl, q2, q9, hmk⟩ := qs17_ok hy
  have hf := Lib.hid (hmk.fv (by omega))
  have HM := Lib.hid (l03Make_c q w2 q2 (by omega) hmk)
  clear hmk hy
  generalize (spl q).1 = P at *
  generalize (spl q).2 = D at *
  generalize mkF q = fs at *
  go_wp2_with fail
  refine HM.out.mono ?_
  rintro e w3 ⟨v, rfl, h3⟩
  obtain ⟨a3, c3, rfl⟩ := (h3.rdI 0 rfl).shp'
  unfold fv
  have h4 := h2.call h3
  clear h2 h3
  simp only [List.cons_append] at h4
  have b0 := h4.box 0 rfl 0 rfl
  have b1 := h4.box 0 rfl 1 rfl
  have b2 := h4.box 0 rfl 2 rfl
  have f1 := h4.bfree 0 rfl
  go_wp2_with fail
  refine bodyPost_ret (v := .agg #[.int .i64 P, .int .i64 D, .slice a3 fs.length c3]) (by simp [results, Try.results98, go_sem, b0, b1, b2]) rfl ⟨_, _, _, fs, rfl, hf.out, ?_⟩
  exact (((h4.bstore 0 rfl 0 _).bstore 0 rfl 1 _).bstore 0 rfl 2 _).sub (List.sublist_cons_self _ _)

/-- a vector over a field, and the source goes on -/
def VecS (q : Int) (n : Nat) (w0 : World) (cv : Value) (g K : Nat) (L : List Ent) (e : Ending) (w' : World) : Prop :=
  ∃ (v : Value) (xs : List Int), e = .returned v ∧ xs.length = n ∧ In q xs ∧ Src w0 w' cv g K (row 2 v (iv xs) :: L)

set_option maxHeartbeats 2000000 in
set_option maxRecDepth 100000 in
theorem l17DrawVector_c (p : Int) (D : Nat) (fs : List Int) (vf : Value) (gf fi : Nat) (w0 w : World) (cv : Value) (bs : List UInt8) (g K n : Nat) (L : List Ent) (hb : RdB w0 cv bs) (h : Src w0 w cv g K L) (hK : K < 100000000000) (hn : n ≤ 100)
    (hf : FV p D fs) (hfi : L[fi]? = some (box 25 gf [.int .i64 p, .int .i64 D, vf])) :
    Calls Try.prog 184 #[.pointer (some ⟨g, 0, none⟩), .pointer (some ⟨gf, 0, none⟩), .int .i64 n] w (VecS (p ^ D) n w0 cv g (K + 400) L) := by
  have hSz := fun w' K' v' (xs : List Int) (hs : Src w0 w' cv g K' (row 2 v' (iv xs) :: L)) => Lib.hid (l03Size_c p D gf vf fs w' (hs.boxF (fi + 1) hfi) hf)
  rw [Int.toNat_natCast] at hSz
  have hq := Lib.hid hf.q
  rw [Int.toNat_natCast] at hq
  have hq0 := Lib.hid (show 0 < p ^ D from Int.pow_pos hf.fa.pos)
  generalize p ^ D = q at *
  go_enter Try.func184, Try.ntmps184
  go_wp2_with fail
  go_loopw [2, 7] (fun nn o wr => ∃ (k : Nat) (xs : List Int), k ≤ n ∧ nn = .int .i64 (((n - k : Nat)) : Int) ∧ xs.length = k ∧ Hid (In q xs) ∧ Src w0 wr cv g (K + 4 * k) (row 2 o (iv xs) :: L)) (fun nn _ _ => (intOf nn).toNat)
  case atStart => exact ⟨0, [], by omega, rfl, rfl, fun _ hx => by simp at hx, h.empI⟩
  case round =>
    obtain ⟨k, xs, hk, rfl, hl, hin, hs⟩ := hrel
    by_cases hlt : k < n
    · go_wp2_with fail
      refine (hSz _ _ _ _ hs).out.mono ?_
      rintro e w1 ⟨rfl, h1⟩
      have h2 := hs.call0 h1
      go_wp2_with fail
      refine (pick_c w0 w1 cv bs g _ _ q hb h2 (by omega)).mono ?_
      rintro e w2 ⟨x, hx0, hx1, rfl, h3⟩
      go_wp2_with fail
      refine (one_c w0 w2 cv bs g _ _ 3 hb h3 (by omega)).mono ?_
      rintro e w3 ⟨b, rfl, h4⟩
      have hq0' := hq0.out
      cases b
      · obtain ⟨pp, ss, s0, s1, hS⟩ := h4
        go_wp2_with (at_builtin; refine appI hS 1 rfl (by omega) rfl _ _ rfl rfl _ rfl ?_; intro v2 w4 hS4)
        go_roundw
        case rel => exact ⟨k + 1, xs ++ [x], by omega, by go_num, by simp; omega, fun y hy => by
          rcases List.mem_append.1 hy with hy | hy
          · exact hin y hy
          · simp at hy; subst hy; omega, pp, ss, s0, by omega, hS4⟩
        case measure => simp [intOf]; omega
      · obtain ⟨pp, ss, s0, s1, hS⟩ := h4
        go_wp2_with (at_builtin; refine appI hS 1 rfl (by omega) rfl _ _ rfl rfl _ rfl ?_; intro v2 w4 hS4)
        go_roundw
        case rel => exact ⟨k + 1, xs ++ [0], by omega, by go_num, by simp; omega, fun y hy => by
          rcases List.mem_append.1 hy with hy | hy
          · exact hin y hy
          · simp at hy; subst hy; omega, pp, ss, s0, by omega, hS4⟩
        case measure => simp [intOf]; omega
    · go_wp2_with fail
      go_ret
      exact ⟨_, xs, rfl, by omega, hin, hs.mono (by omega)⟩


theorem Src.rii {w0 w : World} {cv : Value} {g K : Nat} {L : List Ent} {v : Value} {us : List Value} {xss : List (List Int)} (h : Src w0 w cv g K (own2 v us xss ++ L)) (hl : us.length = xss.length) : RII w v us xss :=
  rii2 (h.st) hl
/-- a matrix over a field, and the source goes on -/
def MatS (p : Int) (D n m : Nat) (w0 : World) (cv : Value) (g K : Nat) (L : List Ent) (e : Ending) (w' : World) : Prop :=
  ∃ (v : Value) (us : List Value) (R : List (List Int)), e = .returned v ∧ us.length = R.length ∧ R.length = m ∧ Rect p D n R ∧ Src w0 w' cv g K (own2 v us R ++ L)

theorem Rect.snoc {p : Int} {D n : Nat} {R : List (List Int)} {x : List Int} (h : Rect p D n R) (hl : x.length = n) (hx : In (p ^ D) x) : Rect p D n (R ++ [x]) := fun r hr => by
  rcases List.mem_append.1 hr with hr | hr
  · exact h r hr
  · simp at hr; subst hr; exact ⟨hl, hx⟩
set_option maxHeartbeats 4000000 in
set_option maxRecDepth 100000 in
theorem l17DrawRows_c (p : Int) (D : Nat) (fs : List Int) (vf : Value) (gf fi fj : Nat) (w0 w : World) (cv : Value) (bs : List UInt8) (g K n m : Nat) (L : List Ent) (hb : RdB w0 cv bs) (h : Src w0 w cv g K L) (hK : K < 10000000000) (hn : n ≤ 100) (hm : m ≤ 100)
    (hf : FV p D fs) (hfi : L[fi]? = some (box 25 gf [.int .i64 p, .int .i64 D, vf])) (hfj : L[fj]? = some (row 2 vf (iv fs))) :
    Calls Try.prog 100 #[.pointer (some ⟨g, 0, none⟩), .pointer (some ⟨gf, 0, none⟩), .int .i64 m, .int .i64 n] w (MatS p D n m w0 cv g (K + 100000) L) := by
  have HF := Lib.hid hf
  have q64 := Lib.hid hf.q64
  have qp := Lib.hid (show 0 < p ^ D from Int.pow_pos hf.fa.pos)
  clear hf
  go_enter Try.func100, Try.ntmps100
  go_wp2_with fail
  go_loopw [9, 10] (fun o _ wr => ∃ (us : List Value) (R : List (List Int)), R.length ≤ m ∧ Hid (us.length = R.length) ∧ Hid (Rect p D n R) ∧ Src w0 wr cv g (K + 500 * R.length) (own2 o us R ++ L) ∧ Hid (∃ a c, o = .slice a R.length c)) (fun o _ _ => m - (match o with | .slice _ n _ => n | _ => 0))
  case atStart => exact ⟨[], [], by simp, rfl, fun _ hx => by simp at hx, h.empII, ⟨_, _, rfl⟩⟩
  case round =>
    obtain ⟨us, R, hk, hl, hR, hs, ⟨ao, co, rfl⟩⟩ := hrel
    have hln := (hs.rii hl).len
    have hle := (hs.rii hl).le
    by_cases hlt : R.length < m
    · go_wp2_with fail
      refine (l17DrawVector_c p D fs vf gf _ w0 wr cv bs g _ n _ hb hs (by omega) hn HF.out (at_app hfi)).mono ?_
      rintro e w1 ⟨v1, x1, rfl, hl1, hi1, h1⟩
      have Hl1 := Lib.hid hl1
      have Hi1 := Lib.hid hi1
      clear hl1 hi1 hs
      by_cases h2 : 1 < R.length
      · go_wp2_with fail
        refine (one_c w0 w1 cv bs g _ _ 4 hb h1 (by omega)).mono ?_
        rintro e w2 ⟨b, rfl, h3⟩
        clear h1
        cases b
        · obtain ⟨a1, c1, hv1⟩ := (h3.rdI 0 rfl).shp'
          subst hv1
          obtain ⟨pp, ss, s0, s1, hS⟩ := h3
          go_wp2_with (at_builtin; refine appII hS 2 rfl (by rw [hl]; omega) rfl _ _ rfl rfl _ rfl rfl ?_; intro v2 w4 hS4)
          have hS5 : Src w0 w4 cv g (K + 500 * (R ++ [x1]).length) (own2 v2 (us ++ [.slice a1 x1.length c1]) (R ++ [x1]) ++ L) := by
            refine ⟨pp, ss, s0, by simp; omega, hS4.perm ?_⟩
            simp only [own2, rowsI_app hl, List.set_cons_zero, List.set_cons_succ, List.cons_append]
            exact (by (try simp only [own2, List.cons_append, List.nil_append, List.append_nil]); classical exact List.perm_iff_count.2 (fun a => by simp only [List.cons_append, List.nil_append, List.append_nil, List.count_append, List.count_cons, List.count_nil] <;> omega))
          obtain ⟨a5, c5, hv5⟩ := (hS5.rii (by simp; exact hl)).shp'
          subst hv5
          go_roundw
          case rel => exact ⟨_, _, by simp; omega, by simp [Hid]; exact hl, hR.snoc Hl1.out Hi1.out, hS5, ⟨_, _, rfl⟩⟩
          case measure => simp; omega
        · go_wp2_with fail
          have hr3 := (h3.sub (List.sublist_cons_self _ _)).rii hl
          have hx0 := hr3.ixe 0 0 rfl (by omega)
          have hx1 := hr3.ixe 1 1 rfl (by omega)
          have hc0 := hr3.cell 0 (by omega)
          have hc1 := hr3.cell 1 (by omega)
          have rA := hR.ra (j := 0) (by omega)
          have rB := hR.ra (j := 1) (by omega)
          have RA := Lib.hid (show (xat R 0).length = n ∧ In (p ^ D) (xat R 0) from rA)
          have RB := Lib.hid (show (xat R 1).length = n ∧ In (p ^ D) (xat R 1) from rB)
          clear rA rB
          have hSz := fun w' K' v' (xs : List Int) (hs : Src w0 w' cv g K' (row 2 v' (iv xs) :: (own2 (.slice ao R.length co) us R ++ L))) => Lib.hid (l03Size_c p D gf vf fs w' (hs.boxF (_ + 1) (at_cons (at_app hfi))) HF.out)
          rw [Int.toNat_natCast] at hSz
          go_region_held3 (fun w' => w'.cell? (el (.slice ao R.length co) 0) = some (vat us 0) ∧ w'.cell? (el (.slice ao R.length co) 1) = some (vat us 1)) (((try dsimp only); (repeat' apply And.intro); all_goals (repeat (first | assumption | exact cell_dr (by assumption) | refine cell_dr ?_ | refine cell_al ?_ | refine cell_sc (by assumption) ?_))))
            (first
            | (go_at_call 112; refine (hSz _ _ _ _ h3.drew).out.mono ?_; rintro e w3 ⟨rfl, h4⟩; have h5 := h3.drew.call0 h4; have hr5 := (h5.sub (List.sublist_cons_self _ _)).rii hl; have k0 := hr5.cell 0 (by omega); have k1 := hr5.cell 1 (by omega))
            | (go_at_call 99; refine (pick_c w0 _ cv bs g _ _ _ hb h5 (by omega)).mono ?_; rintro e w4 ⟨y, hy0, hy1, rfl, h6⟩; have hr6 := (h6.sub (List.sublist_cons_self _ _)).rii hl; have k2 := hr6.cell 0 (by omega); have k3 := hr6.cell 1 (by omega))
            | (go_at_call 185; refine (l17Less_c p D gf vf fs _ _ _ _ _ _ (h6.rdI _ (at_cons (at_app hfj))) (h6.boxF _ (at_cons (at_app hfi))) HF.out (hr6.row 0 (by omega)) (hr6.row 1 (by omega)) (by have := RA.out.1; omega) (by have := RA.out.1; have := RB.out.1; omega) RA.out.2 RB.out.2 ⟨hy0, by have := qp.out; omega⟩).mono ?_; rintro e w5 ⟨v6, rfl, h7⟩; have h8 := h6.call h7; have hr8 := (h8.sub ((List.sublist_cons_self _ _).trans (List.sublist_append_left _ _))).rii hl; have k4 := hr8.cell 0 (by omega); have k5 := hr8.cell 1 (by omega)))
          all_goals
            have h9 := (h8.perm (List.perm_append_comm (l₂ := [_]))).sub (List.Sublist.cons_cons _ (List.sublist_cons_self _ _))
            clear h3 h4 h5 h6 h7 h8 hr3 hr5 hr6 hr8 Hl1 Hi1
            have Hl1 := Lib.hid (show (tab (xat R 0).length fun k => fsum p D (cf (xat R 0) k) (fmul p D fs (cf (xat R 1) k) y) (p - 1)).length = n by rw [tab_len]; exact RA.out.1)
            have Hi1 := Lib.hid (show In (p ^ D) (tab (xat R 0).length fun k => fsum p D (cf (xat R 0) k) (fmul p D fs (cf (xat R 1) k) y) (p - 1)) from In.tab fun j hj => fsum_el HF.out.fa.pos _ _ _)
            clear RA RB hSz
            generalize (tab (xat R 0).length fun k => fsum p D (cf (xat R 0) k) (fmul p D fs (cf (xat R 1) k) y) (p - 1)) = x1 at *
            clear hx0 hx1 hc0 hc1
            obtain ⟨a1, c1, hv1⟩ := (h9.rdI 0 rfl).shp'
            subst hv1
            obtain ⟨pp, ss, s0, s1, hS⟩ := h9
            go_wp2_with (at_builtin; refine appII hS 2 rfl (by rw [hl]; omega) rfl _ _ rfl rfl _ rfl rfl ?_; intro v2 w4 hS4)
            have hS5 : Src w0 w4 cv g (K + 500 * (R ++ [x1]).length) (own2 v2 (us ++ [.slice a1 x1.length c1]) (R ++ [x1]) ++ L) := by
              refine ⟨pp, ss, s0, by simp; omega, hS4.perm ?_⟩
              simp only [own2, rowsI_app hl, List.set_cons_zero, List.set_cons_succ, List.cons_append]
              exact (by (try simp only [own2, List.cons_append, List.nil_append, List.append_nil]); classical exact List.perm_iff_count.2 (fun a => by simp only [List.cons_append, List.nil_append, List.append_nil, List.count_append, List.count_cons, List.count_nil] <;> omega))
            obtain ⟨a5, c5, hv5⟩ := (hS5.rii (by simp; exact hl)).shp'
            subst hv5
            go_roundw
            case rel => exact ⟨_, _, by simp; omega, by simp [Hid]; exact hl, hR.snoc Hl1.out Hi1.out, hS5, ⟨_, _, rfl⟩⟩
            case measure => simp; omega
      · obtain ⟨a1, c1, hv1⟩ := (h1.rdI 0 rfl).shp'
        subst hv1
        obtain ⟨pp, ss, s0, s1, hS⟩ := h1
        go_wp2_with (at_builtin; refine appII hS 2 rfl (by rw [hl]; omega) rfl _ _ rfl rfl _ rfl rfl ?_; intro v2 w4 hS4)
        have hS5 : Src w0 w4 cv g (K + 500 * (R ++ [x1]).length) (own2 v2 (us ++ [.slice a1 x1.length c1]) (R ++ [x1]) ++ L) := by
          refine ⟨pp, ss, s0, by simp; omega, hS4.perm ?_⟩
          simp only [own2, rowsI_app hl, List.set_cons_zero, List.set_cons_succ, List.cons_append]
          exact (by (try simp only [own2, List.cons_append, List.nil_append, List.append_nil]); classical exact List.perm_iff_count.2 (fun a => by simp only [List.cons_append, List.nil_append, List.append_nil, List.count_append, List.count_cons, List.count_nil] <;> omega))
        obtain ⟨a5, c5, hv5⟩ := (hS5.rii (by simp; exact hl)).shp'
        subst hv5
        go_roundw
        case rel => exact ⟨_, _, by simp; omega, by simp [Hid]; exact hl, hR.snoc Hl1.out Hi1.out, hS5, ⟨_, _, rfl⟩⟩
        case measure => simp; omega
    · go_wp2_with fail
      go_ret
      exact ⟨_, us, R, rfl, hl, by omega, hR, hs.mono (by omega)⟩
/-- a field and two square matrices of its elements -/
def SidesS (w : World) (e : Ending) (w' : World) : Prop :=
  ∃ (p : Int) (D n : Nat) (v : Value) (fs : List Int) (va : Value) (ua : List Value) (A : List (List Int)) (vb : Value) (ub : List Value) (B : List (List Int)),
    e = .returned (.tuple #[fv p D v, va, vb]) ∧ FV p D fs ∧ 1 ≤ n ∧ n ≤ 4 ∧ ua.length = A.length ∧ A.length = n ∧ Rect p D n A ∧ ub.length = B.length ∧ B.length = n ∧ Rect p D n B ∧
    St w.heap.size w w' (own2 vb ub B ++ (own2 va ua A ++ [row 2 v (iv fs)]))
set_option maxHeartbeats 4000000 in
set_option maxRecDepth 100000 in
theorem V8Sides_c (w : World) (cv : Value) (bs : List UInt8) (hb : RdB w cv bs) : Calls Try.prog 15 #[cv] w (SidesS w) := by
  have hS0 := (St.refl w).newboxF 25 #[.int .i64 0, .int .i64 0, .slice none 0 0]
  go_enter Try.func15, Try.ntmps15
  go_wp2_with fail
  refine (l00FromS w _ cv bs _ hb hS0).mono ?_
  rintro e w1 ⟨g, rfl, h1⟩
  go_wp2_with fail
  refine (l17DrawField_c w w1 cv bs g _ _ hb h1 (by omega)).mono ?_
  rintro e w2 ⟨p, D, vf, fs, rfl, hf, h2⟩
  obtain ⟨af, cf', rfl⟩ := (h2.rdI 1 rfl).shp'
  unfold fv
  have HF := Lib.hid hf
  clear hf
  have h3 := h2.newboxF 25 #[.int .i64 p, .int .i64 D, .slice af fs.length cf']
  have hlt2 := (h2.boxlt 0 rfl)
  go_wp2_with fail
  refine (pick_c w _ cv bs g _ _ 4 hb h3 (by omega)).mono ?_
  rintro e w3 ⟨x, hx0, hx1, rfl, h4⟩
  obtain ⟨k, rfl⟩ := Int.eq_ofNat_of_zero_le hx0
  go_wp2_with fail
  have e1 : (1 + (k : Int)) = ((1 + k : Nat) : Int) := by omega
  rw [e1]
  clear e1
  generalize hn1 : 1 + k = n
  have Hn := Lib.hid (show 1 ≤ n ∧ n ≤ 4 by omega)
  clear hn1 hx0 hx1
  have hn100 := Hn.out.2
  refine (l17DrawRows_c p D fs _ w2.heap.size 0 2 w w3 cv bs g _ n n _ hb h4 (by omega) (by omega) (by omega) HF.out rfl rfl).mono ?_
  rintro e w4 ⟨va, ua, A, rfl, hla, hna, hA, h5⟩
  have Hla := Lib.hid hla
  have Hna := Lib.hid hna
  have HA := Lib.hid hA
  clear hla hna hA
  go_wp2_with fail
  have b0 := h5.box _ (at_app (i := 0) rfl) 0 rfl
  have b1 := h5.box _ (at_app (i := 0) rfl) 1 rfl
  have b2 := h5.box _ (at_app (i := 0) rfl) 2 rfl
  have hne : w.heap.size ≠ w2.heap.size := by omega
  have hne' : w2.heap.size ≠ w.heap.size := by omega
  refine regionG (fun w' => w'.cell? ⟨w2.heap.size, 0, none⟩ = some (.int .i64 p) ∧ w'.cell? ⟨w2.heap.size, 1, none⟩ = some (.int .i64 D) ∧ w'.cell? ⟨w2.heap.size, 2, none⟩ = some (.slice af fs.length cf')) 6 (by kernel_rfl) ⟨cell_dr b0, cell_dr b1, cell_dr b2⟩ (fun hHeld => ?_)
  refine takeH (i := 0) [] (v := ?_) rfl (by kernel_rfl) (fun _ _ _ h => h) (by rfl) ?_ (by assumption) ?_
  case refine_2 => (intro w' hSw; (try dsimp only at hSw); go_simp; first | done | with_reducible rfl)
  try simp only [Act.put, List.setIfInBounds_toArray, List.set_cons_zero, List.set_cons_succ]
  refine takeP (i := 1) (v := ?_) rfl (by kernel_rfl) (fun _ _ _ h => h) (by rfl) ?_ (by assumption) ?_
  case refine_2 => (intro w'; go_simp; first | done | with_reducible rfl)
  try simp only [Act.put, List.setIfInBounds_toArray, List.set_cons_zero, List.set_cons_succ]
  refine takeP (i := 2) (v := ?_) rfl (by kernel_rfl) (fun _ _ _ h => h) (by rfl) ?_ (by assumption) ?_
  case refine_2 => (intro w'; go_simp; first | done | with_reducible rfl)
  try simp only [Act.put, List.setIfInBounds_toArray, List.set_cons_zero, List.set_cons_succ]
  refine takeP (i := 3) (v := ?_) rfl (by kernel_rfl) (fun _ _ _ h => h) (by rfl) ?_ (by assumption) ?_
  case refine_2 => (intro w'; go_simp; first | done | with_reducible rfl)
  try simp only [Act.put, List.setIfInBounds_toArray, List.set_cons_zero, List.set_cons_succ]
  refine takeP (i := 4) (v := ?_) rfl (by kernel_rfl) (fun _ _ _ h => h) (by rfl) ?_ (by assumption) ?_
  case refine_2 => (intro w'; go_simp; first | done | with_reducible rfl)
  try simp only [Act.put, List.setIfInBounds_toArray, List.set_cons_zero, List.set_cons_succ]
  refine readyG (rs := [5]) (by kernel_rfl) (by simp) ?_
  refine AllG.cons rfl (fun K hK => ?_) AllG.nil
  go_simp
  go_at_call 100
  refine (l17DrawRows_c p D fs _ w2.heap.size _ _ w _ cv bs g _ n n _ hb h5.drew (by omega) (by omega) (by omega) HF.out (at_app (i := 0) rfl) (at_app (i := 2) rfl)).mono ?_
  rintro e w5 ⟨vb, ub, B, rfl, hlb, hnb, hB, h6⟩
  have Hlb := Lib.hid hlb
  have Hnb := Lib.hid hnb
  have HB := Lib.hid hB
  clear hlb hnb hB
  have b3 := h6.box _ (at_app (at_app (i := 0) rfl)) 0 rfl
  have b4 := h6.box _ (at_app (at_app (i := 0) rfl)) 1 rfl
  have b5 := h6.box _ (at_app (at_app (i := 0) rfl)) 2 rfl
  have d0 := h6.box _ (at_app (at_app (i := 1) rfl)) 0 rfl
  have d1 := h6.box _ (at_app (at_app (i := 1) rfl)) 1 rfl
  have d2 := h6.box _ (at_app (at_app (i := 1) rfl)) 2 rfl
  have f1 := h6.bfree _ (at_app (at_app (i := 1) rfl))
  refine hK.out _ _ ⟨b3, b4, b5⟩ (fun hHeld => ?_)
  clear hK K
  try simp only [Act.put, List.setIfInBounds_toArray, List.set_cons_zero, List.set_cons_succ]
  refine readyG (rs := [6]) (by kernel_rfl) (by simp) ?_
  refine AllG.last rfl (by kernel_rfl) (fun K hK => ?_) AllG.nil
  go_simp
  refine hK.out _ _ ?_
  clear hK K
  try simp only [Act.put, List.setIfInBounds_toArray, List.set_cons_zero, List.set_cons_succ]
  refine readyG (rs := [7]) (by kernel_rfl) (by simp) ?_
  refine AllG.last rfl (by kernel_rfl) (fun K hK => ?_) AllG.nil
  go_simp
  refine hK.out _ _ ?_
  clear hK K
  try simp only [Act.put, List.setIfInBounds_toArray, List.set_cons_zero, List.set_cons_succ]
  refine readyG (rs := [8]) (by kernel_rfl) (by simp) ?_
  refine AllG.last rfl (by kernel_rfl) (fun K hK => ?_) AllG.nil
  go_simp
  refine hK.out _ _ ?_
  clear hK K
  try simp only [Act.put, List.setIfInBounds_toArray, List.set_cons_zero, List.set_cons_succ]
  refine doneG (by kernel_rfl) ?_ _
  refine NoPanic.normal ?_
  go_wp2_with fail
  have h7 := h6.perm (L' := box 25 w.heap.size [.int .i64 0, .int .i64 0, .slice none 0 0] :: (own2 vb ub B ++ (own2 va ua A ++ [row 2 (.slice af fs.length cf') (iv fs), box 25 w2.heap.size [.int .i64 p, .int .i64 D, .slice af fs.length cf']]))) (by (try simp only [own2, List.cons_append, List.nil_append, List.append_nil]); classical exact List.perm_iff_count.2 (fun a => by simp only [List.cons_append, List.nil_append, List.append_nil, List.count_append, List.count_cons, List.count_nil] <;> omega))
  refine bodyPost_ret (v := .tuple #[.agg #[.int .i64 p, .int .i64 D, .slice af fs.length cf'], va, vb]) (by simp [results, Try.results15, go_sem, d0, d1, d2]) rfl ⟨p, D, n, _, fs, va, ua, A, vb, ub, B, rfl, HF.out, Hn.out.1, Hn.out.2, Hla.out, Hna.out, HA.out, Hlb.out, Hnb.out, HB.out, ?_⟩
  have h8 := (((h7.bstore 0 rfl 0 (.int .i64 p)).bstore 0 rfl 1 (.int .i64 D)).bstore 0 rfl 2 (.slice af fs.length cf')).st
  refine h8.sub ((((List.Sublist.refl _).append ((List.Sublist.refl _).append ?_))).cons _)
  exact (List.sublist_append_left [_] [_])

end Go.Proofs.Ytcenabaklokhhaa
