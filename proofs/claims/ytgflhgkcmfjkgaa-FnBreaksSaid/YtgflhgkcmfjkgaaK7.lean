/- The texts of this claim, run 7: Br1 Srt PRs Arr2 Src Src2 Drw Ds2 RrC Po Br2 Br3 DsD. -/
import Derived.Test.YtgflhgkcmfjkgaaK1
import Derived.Test.YtgflhgkcmfjkgaaK4
import Derived.Test.YtgflhgkcmfjkgaaK5
import Derived.Test.YtgflhgkcmfjkgaaK6
import Derived.Shelf.SortM.Plain
import Derived.Shelf.SortM.SortNone
import Derived.Sort.OwnSortedInts
section
/- Walks: places of teams in a round, counts of breaks, of the program. -/
namespace Go.Proofs.Ytgflhgkcmfjkgaa
set_option linter.unusedSimpArgs false
set_option linter.unusedVariables false
open Go.RowKit
attribute [local go_sem ↓] Go.wp_at_zero Go.wp_at_succ

/-- numbers of all teams -/
def tmF (n : Nat) (f : Int → Int) : List Int := (List.range n).map fun t : Nat => f t
theorem tmF_len (n : Nat) (f : Int → Int) : (tmF n f).length = n := by simp [tmF]
theorem tmF_nth {n t : Nat} {f : Int → Int} (h : t < n) : nth (tmF n f) t = f t := by rw [nth_eq (by rw [tmF_len]; exact h)]; simp [tmF]
theorem tmF_set {n t : Nat} {f g : Int → Int} {z : Int} (h : t < n) (h1 : g t = z) (h2 : ∀ x : Nat, x ≠ t → g x = f x) : (tmF n f).set t z = tmF n g := by
  refine List.ext_getElem (by simp [tmF]) fun i a b => ?_
  rw [List.getElem_set]
  simp only [tmF, List.getElem_map, List.getElem_range]
  split
  · rename_i e; rw [← e, h1]
  · rename_i e; exact (h2 i (fun e2 => e e2.symm)).symm
def plM (q : List (List Int)) (h : List Int) (k j : Nat) (t : Int) : Int := if t ∈ (xat q k).take j then -1 else plN q h k t
theorem plM_0 (q : List (List Int)) (h : List Int) (k : Nat) : plM q h k 0 = plN q h k := by funext t; simp [plM]
theorem plM_set {n : Nat} {q : List (List Int)} {h : List Int} {k j y : Nat} (hy : y < n) (hj : j < (xat q k).length) (e : nth (xat q k) j = y) : (tmF n (plM q h k j)).set y (-1) = tmF n (plM q h k (j + 1)) := by
  refine tmF_set hy ?_ fun x hx => ?_
  · rw [plM, if_pos]; rw [take_nth hj, e]; simp
  · rw [plM, plM, take_nth hj, e]
    have : ((x : Int) ∈ (xat q k).take j ++ [(y : Int)]) ↔ (x : Int) ∈ (xat q k).take j := by
      simp only [List.mem_append, List.mem_singleton]
      exact ⟨fun h => h.elim id (fun h => by omega), .inl⟩
    simp only [this]
theorem plN_set {n : Nat} {q : List (List Int)} {h : List Int} {k y : Nat} (hy : y < n) (e : nth h k = y) : (tmF n (plM q h k (xat q k).length)).set y 1 = tmF n (plN q h (k + 1)) := by
  refine tmF_set hy ?_ fun x hx => ?_
  · rw [plN, if_pos e.symm]
  · rw [plN, if_neg (by rw [e]; omega), plM, List.take_length]
set_option maxHeartbeats 4000000 in
set_option maxRecDepth 100000 in
theorem places_c (n : Nat) (v vh : Value) (us : List Value) (q : List (List Int)) (h : List Int) (w : World) (hv : RII w v us q) (hh : RdI w vh h) (hl : h.length = q.length) (hin : ∀ k, k < q.length → ∀ x ∈ xat q k, 0 ≤ x ∧ x < n) (hm : ∀ k, k < q.length → nth h k ∈ xat q k) (hn : n ≤ 100) :
    Calls Try.prog 50 #[.int .i64 n, v, vh] w (MakesI w (tmF n (plN q h q.length))) := by
  have hln := hv.len
  have hle := hv.le
  have hix := hv.ixe
  have hxh := hh.ixe
  rw [hl] at hxh
  have HI := Lib.hid hin
  have HM := Lib.hid hm
  have H0 := Lib.hid (show List.replicate n (0 : Int) = tmF n (plN q h 0) by
    refine List.ext_getElem (by simp [tmF]) fun i a b => ?_
    simp [tmF, plN])
  have Hl := Lib.hid hl
  clear hin hm hl
  go_enter Try.func50, Try.ntmps50
  go_wp2_with (at_make; refine mkI (St.refl w) rfl _ _ rfl .i64 .i64 n rfl rfl (by omega) ?_; intro v1 w1 hS1; simp only [List.nil_append] at hS1; rw [H0.out] at hS1)
  go_loopw [16, 8, 9, 11] (fun i _ _ _ wr => ∃ k : Nat, k ≤ q.length ∧ i = .int .i64 k ∧ St w.heap.size w wr [row 2 v1 (iv (tmF n (plN q h k)))]) (fun i _ _ _ _ => q.length - (intOf i).toNat)
  case atStart => exact ⟨0, by omega, rfl, hS1⟩
  case round =>
    clear hS1
    obtain ⟨k, hk, rfl, hS⟩ := hrel
    by_cases hlt : k < q.length
    · have hc := (hS.oldII hv).cell k hlt
      have hx := hix (k : Int) k rfl hlt
      have hlr := (hv.row k hlt).len
      have hler := (hv.row k hlt).le
      have hxr := (hv.row k hlt).ixe
      have E0 := Lib.hid (plM_0 q h k)
      have HIk := Lib.hid (HI.out k hlt)
      have hmk := HM.out k hlt
      have hbk := HI.out k hlt _ hmk
      rw [← E0.out] at hS
      go_wp2_with fail
      go_loopw [23, 11] (fun i _ wr => ∃ j : Nat, j ≤ (xat q k).length ∧ i = .int .i64 j ∧ St w.heap.size w wr [row 2 v1 (iv (tmF n (plM q h k j)))]) (fun i _ _ => (xat q k).length - (intOf i).toNat)
      case atStart => exact ⟨0, by omega, rfl, hS⟩
      case round =>
        clear hS hc
        obtain ⟨j, hj, rfl, hS⟩ := hrel
        by_cases hjt : j < (xat q k).length
        · have hcj := ((hS.oldII hv).row k hlt).cell j hjt
          have hxj := hxr (j : Int) j rfl hjt
          have hy := HIk.out _ (nth_mem hjt)
          obtain ⟨y, hye⟩ := Int.eq_ofNat_of_zero_le hy.1
          have hyn : y < n := by omega
          have HP := Lib.hid (plM_set (n := n) (h := h) hyn hjt hye)
          rw [hye] at hcj
          have rT := hS.rdI 0 rfl
          have ixy := rT.ixe (y : Int) y rfl (by rw [tmF_len]; exact hyn)
          have Hyn := Lib.hid hyn
          clear hy hye rT
          go_wp2_with (refine stoI hS 0 rfl y (by rw [tmF_len]; exact Hyn.out) rfl _ _ rfl rfl _ rfl ?_; intro w5 hS5; simp only [List.set_cons_zero] at hS5)
          rw [HP.out] at hS5
          go_roundw
          case rel => exact ⟨j + 1, by omega, by go_num, hS5⟩
          case measure => simp [intOf]; omega
        · obtain rfl : j = (xat q k).length := by omega
          have hch := (hS.oldI hh).cell k (by rw [Hl.out]; exact hlt)
          have hxhk := hxh (k : Int) k rfl hlt
          obtain ⟨y, hye⟩ := Int.eq_ofNat_of_zero_le hbk.1
          have hyn : y < n := by omega
          have HP := Lib.hid (plN_set (n := n) (q := q) hyn hye)
          rw [hye] at hch
          have rT := hS.rdI 0 rfl
          have ixy := rT.ixe (y : Int) y rfl (by rw [tmF_len]; exact hyn)
          have Hyn := Lib.hid hyn
          clear hye rT
          go_wp2_with (refine stoI hS 0 rfl y (by rw [tmF_len]; exact Hyn.out) rfl _ _ rfl rfl _ rfl ?_; intro w5 hS5; simp only [List.set_cons_zero] at hS5)
          rw [HP.out] at hS5
          go_roundw
          case rel => exact ⟨k + 1, by omega, by go_num, hS5⟩
          case measure => simp [intOf]; omega
    · obtain rfl : k = q.length := by omega
      go_wp2_with fail
      go_ret
      exact ⟨_, rfl, hS⟩
theorem plN_bd (q : List (List Int)) (h : List Int) (t : Int) : ∀ k, plN q h k t = -1 ∨ plN q h k t = 0 ∨ plN q h k t = 1
  | 0 => .inr (.inl rfl)
  | k + 1 => by
    rw [plN]
    split
    · exact .inr (.inr rfl)
    · split
      · exact .inl rfl
      · exact plN_bd q h t k
theorem pl_mul (R : List (List (List Int))) (H : List (List Int)) (r s : Nat) (t : Int) : -1 ≤ plR R H r t * plR R H s t ∧ plR R H r t * plR R H s t ≤ 1 := by
  rcases plN_bd (x3at R r) (xat H r) t (x3at R r).length with e | e | e <;> rcases plN_bd (x3at R s) (xat H s) t (x3at R s).length with e2 | e2 | e2 <;> rw [plR, plR, e, e2] <;> decide
theorem VS.some {n : Nat} {R : List (List (List Int))} (h : VS n R) : 1 ≤ R.length := by
  have h2 := h.al 0 1 (by omega) (by have := h.n2; omega)
  cases R with
  | nil => simp at h2
  | cons _ _ => simp
/-- a count of breaks, and a code -/
def CB (w : World) (n : Int) (R : List (List (List Int))) (H : List (List Int)) (e : Ending) (w' : World) : Prop := ∃ b c : Int, e = .returned (.tuple #[.int .i64 b, .int .i64 c]) ∧ St w.heap.size w w' [] ∧
  (c = 0 → ∃ m : Nat, n = m ∧ VS m R ∧ HmOk R H ∧ b = brF m R H (R.length - 1)) ∧ (∀ m : Nat, n = m → VS m R → HmOk R H → c = 0)
theorem CB.no {w w' : World} {n : Int} {R : List (List (List Int))} {H : List (List Int)} {c : Int} (hc : c ≠ 0) (h : St w.heap.size w w' []) (hn : ∀ m : Nat, n = m → VS m R → HmOk R H → False) : CB w n R H (.returned (.tuple #[.int .i64 0, .int .i64 c])) w' :=
  ⟨0, c, rfl, h, fun e => absurd e hc, fun m hm hv hh => (hn m hm hv hh).elim⟩
set_option maxHeartbeats 16000000 in
set_option maxRecDepth 100000 in
theorem CountBreaks_c (n : Int) (v vh : Value) (vs : List Value) (uss : List (List Value)) (R : List (List (List Int))) (uh : List Value) (H : List (List Int)) (w : World) (hv : RIII w v vs uss R) (hh : RII w vh uh H) (hR : R.length ≤ 1000) :
    Calls Try.prog 17 #[.int .i64 n, v, vh] w (CB w n R H) := by
  have KV := ValidSchedule_c n v vs uss R w hv
  cases hvs : vsB n R with
  | false =>
    rw [hvs] at KV
    have HN := Lib.hid (show ∀ m : Nat, n = m → VS m R → HmOk R H → False from fun m hm hV _ => by
      have := hV.t
      rw [← hm, hvs] at this; cases this)
    clear hvs
    go_enter Try.func17, Try.ntmps17
    go_wp2_with fail
    refine KV.mono ?_
    rintro e w1 ⟨rfl, h1⟩
    go_wp2_with fail
    go_ret2
    exact CB.no (by omega) h1 HN.out
  | true =>
    rw [hvs] at KV
    obtain ⟨m, rfl, hV⟩ := VS.of hvs
    have HV := Lib.hid hV
    have m32 := hV.n32
    clear hvs hV
    have hln := hv.len
    have hle := hv.le
    have hix := hv.ixe
    have hlh := hh.len
    have hleh := hh.le
    have hxh := hh.ixe
    by_cases hlen : H.length = R.length
    case neg =>
      have f1 : ((H.length : Int) != (R.length : Int)) = true := ne_t (by omega)
      have HN := Lib.hid (show ∀ m' : Nat, (m : Int) = m' → VS m' R → HmOk R H → False from fun _ _ _ hH => hlen hH.len)
      clear hlen
      go_enter Try.func17, Try.ntmps17
      go_wp2_with fail
      refine KV.mono ?_
      rintro e w1 ⟨rfl, h1⟩
      go_wp2_with fail
      go_ret2
      exact CB.no (by omega) h1 HN.out
    case pos =>
      have f1 : ((H.length : Int) != (R.length : Int)) = false := ne_f (by omega)
      have Hlen := Lib.hid hlen
      rw [hlen] at hxh
      clear hlen
      go_enter Try.func17, Try.ntmps17
      go_wp2_with fail
      refine KV.mono ?_
      clear KV
      rintro e w1 ⟨rfl, h1⟩
      go_wp2_with fail
      go_loopw [28, 8, 9, 10, 11] (fun i _ _ _ _ wr => ∃ r : Nat, r ≤ R.length ∧ i = .int .i64 r ∧ Hid (∀ r', r' < r → (xat H r').length = (x3at R r').length ∧ ∀ k, k < (x3at R r').length → nth (xat H r') k ∈ xat (x3at R r') k) ∧ St w.heap.size w wr []) (fun i _ _ _ _ _ => R.length - (intOf i).toNat)
      case atStart => exact ⟨0, by omega, rfl, fun r' h => by omega, h1⟩
      case round =>
        clear h1
        obtain ⟨r, hr, rfl, hI, hS⟩ := hrel
        by_cases hlt : r < R.length
        · have hc := (hS.oldIII hv).cell r hlt
          have hx := hix (r : Int) r rfl hlt
          have hch := (hS.oldII hh).cell r (by rw [Hlen.out]; exact hlt)
          have hxhr := hxh (r : Int) r rfl hlt
          have hlr := (hv.row r hlt).len
          have hler := (hv.row r hlt).le
          have hxr := (hv.row r hlt).ixe
          have rh := hh.row r (by rw [Hlen.out]; exact hlt)
          have hlhr := rh.len
          have hxhh := rh.ixe
          by_cases hll : (xat H r).length = (x3at R r).length
          case neg =>
            have f2 : (((xat H r).length : Int) != ((x3at R r).length : Int)) = true := ne_t (by omega)
            have HN := Lib.hid (show ∀ m' : Nat, (m : Int) = m' → VS m' R → HmOk R H → False from fun _ _ _ hH => hll (hH.rl r hlt))
            clear hll
            go_wp2_with fail
            go_ret2
            exact CB.no (by omega) hS.out HN.out
          case pos =>
            have f2 : (((xat H r).length : Int) != ((x3at R r).length : Int)) = false := ne_f (by omega)
            have Hll := Lib.hid hll
            rw [hll] at hxhh
            clear hll
            go_wp2_with fail
            go_loopw [43, 10, 11] (fun i _ _ wr => ∃ k : Nat, k ≤ (x3at R r).length ∧ i = .int .i64 k ∧ Hid (∀ k', k' < k → nth (xat H r) k' ∈ xat (x3at R r) k') ∧ St w.heap.size w wr []) (fun i _ _ _ => (x3at R r).length - (intOf i).toNat)
            case atStart => exact ⟨0, by omega, rfl, fun k' h => by omega, hS⟩
            case round =>
              clear hS hc hch
              obtain ⟨k, hk, rfl, hJ, hS⟩ := hrel
              by_cases hkt : k < (x3at R r).length
              · have hck := ((hS.oldIII hv).row r hlt).cell k hkt
                have hxk := hxr (k : Int) k rfl hkt
                have hch := (hS.oldII hh).cell r (by rw [Hlen.out]; exact hlt)
                have hchk := ((hS.oldII hh).row r (by rw [Hlen.out]; exact hlt)).cell k (by rw [Hll.out]; exact hkt)
                have hxhk := hxhh (k : Int) k rfl hkt
                have KC := Lib.hid (Contains_c _ _ (nth (xat H r) k) _ (((hS.oldIII hv).row r hlt).row k hkt))
                by_cases hm : nth (xat H r) k ∈ xat (x3at R r) k
                · rw [decide_eq_true hm] at KC
                  have Hm := Lib.hid hm
                  clear hm
                  go_wp2_with (go_at_call 38; refine KC.out.mono ?_; rintro e2 w4 ⟨rfl, hw4⟩; subst hw4)
                  go_roundw
                  case rel => exact ⟨k + 1, by omega, by go_num, fun k' hk' => by
                    by_cases e : k' = k
                    · subst e; exact Hm.out
                    · exact hJ.out k' (by omega), hS⟩
                  case measure => simp [intOf]; omega
                · rw [decide_eq_false hm] at KC
                  have HN := Lib.hid (show ∀ m' : Nat, (m : Int) = m' → VS m' R → HmOk R H → False from fun _ _ _ hH => hm (hH.mem r hlt k hkt))
                  clear hm
                  go_wp2_with (go_at_call 38; refine KC.out.mono ?_; rintro e2 w4 ⟨rfl, hw4⟩; subst hw4)
                  go_ret2
                  exact CB.no (by omega) hS.out HN.out
              · obtain rfl : k = (x3at R r).length := by omega
                go_wp2_with fail
                go_roundw
                case rel => exact ⟨r + 1, by omega, by go_num, fun r' hr' => by
                  by_cases e : r' = r
                  · subst e; exact ⟨Hll.out, hJ.out⟩
                  · exact hI.out r' (by omega), hS⟩
                case measure => simp [intOf]; omega
        · obtain rfl : r = R.length := by omega
          have HH : Hid (HmOk R H) := Lib.hid ⟨Hlen.out, fun r hr => (hI.out r hr).1, fun r hr => (hI.out r hr).2⟩
          clear hI
          go_wp2_with fail
          have hR1 := HV.out.some
          have HG := fun r (hr : r < R.length) k (hk : k < (x3at R r).length) => Lib.hid (gdP_t (HV.out.gd _ (x3at_mem hr) _ (xat_mem hk)))
          have KP := fun r (hr : r < R.length) W h1 h2 => Lib.hid (places_c m (vat vs r) (vat uh r) (vsat uss r) (x3at R r) (xat H r) W h1 h2 (HH.out.rl r hr) (fun k hk x hx => by
            have hG := (HG r hr k hk).out
            have := hG.lo
            have := hG.lt
            have := hG.hi
            rw [hG.eq] at hx
            simp only [List.mem_cons, List.not_mem_nil, or_false] at hx
            omega) (HH.out.mem r hr) (by omega))
          go_loopw [13, 12, 14, 15, 16] (fun i c _ _ _ wr => ∃ r : Nat, 1 ≤ r ∧ r ≤ R.length ∧ i = .int .i64 r ∧ c = .int .i64 (brF m R H (r - 1) : Nat) ∧ St w.heap.size w wr []) (fun i _ _ _ _ _ => R.length - (intOf i).toNat)
          case atStart => exact ⟨1, by omega, hR1, rfl, rfl, hS⟩
          case round =>
            clear hS
            obtain ⟨r, hr1, hr, rfl, rfl, hS⟩ := hrel
            by_cases hlt : r < R.length
            · obtain ⟨j, hj⟩ : ∃ j, r - 1 = j := ⟨_, rfl⟩
              have hjr : (r : Int) - 1 = (j : Int) := by omega
              have hjR : j < R.length := by omega
              have Hjr := Lib.hid (show j + 1 = r by omega)
              have wj : IntKind.i64.wrap ((r : Int) - 1) = (r : Int) - 1 := IntWalk.i64_in _ (by omega)
              have x1 := hix ((r : Int) - 1) j (by omega) hjR
              have x2 := hix (r : Int) r rfl hlt
              have y1 := hxh ((r : Int) - 1) j (by omega) hjR
              have y2 := hxh (r : Int) r rfl hlt
              have c1 := (hS.oldIII hv).cell j hjR
              have c2 := (hS.oldIII hv).cell r hlt
              have d1 := (hS.oldII hh).cell j (by rw [Hlen.out]; exact hjR)
              have d2 := (hS.oldII hh).cell r (by rw [Hlen.out]; exact hlt)
              have hSd := hS.drew
              have KP1 := KP j hjR _ ((hSd.oldIII hv).row j hjR) ((hSd.oldII hh).row j (by rw [Hlen.out]; exact hjR))
              have KP2 := fun W (h1 : RIII W v vs uss R) (h2 : RII W vh uh H) => KP r hlt W (h1.row r hlt) (h2.row r (by rw [Hlen.out]; exact hlt))
              have hb0 := brF_le m R H j
              have hb1 : j * m ≤ 1000 * 32 := Nat.mul_le_mul (by omega) m32
              have HB := Lib.hid (show brF m R H r = brF m R H j + cntN (bkB R H j) m by rw [← Hjr.out]; rfl)
              have HPl := fun t => Lib.hid (show plR R H j t = plN (x3at R j) (xat H j) (x3at R j).length t from rfl)
              have HPr := fun t => Lib.hid (show plR R H r t = plN (x3at R r) (xat H r) (x3at R r).length t from rfl)
              rw [hj]
              clear hj hjr
              go_wp2_with fail
              go_region_held3 (fun w' => w'.cell? (el v j) = some (vat vs j) ∧ w'.cell? (el v r) = some (vat vs r) ∧ w'.cell? (el vh j) = some (vat uh j) ∧ w'.cell? (el vh r) = some (vat uh r)) (((try dsimp only); (repeat' apply And.intro); all_goals (repeat (first | assumption | exact cell_dr (by assumption) | refine cell_dr ?_ | refine cell_al ?_ | refine cell_sc (by assumption) ?_)))) (first
                | (go_at_call_of 50 (vat vs j); refine KP1.out.mono ?_; rintro e2 w5 ⟨v5, rfl, h5⟩; have hS5 := hSd.call h5; have g1 := (hS5.oldIII hv).cell j hjR; have g2 := (hS5.oldIII hv).cell r hlt; have g3 := (hS5.oldII hh).cell j (by rw [Hlen.out]; exact hjR); have g4 := (hS5.oldII hh).cell r (by rw [Hlen.out]; exact hlt))
                | (have hz := hS5; clear hz; go_at_call 50; refine (KP2 _ (hS5.oldIII hv) (hS5.oldII hh)).out.mono ?_; rintro e2 w6 ⟨v6, rfl, h6⟩; have hS6 := hS5.call h6; have g1 := (hS6.oldIII hv).cell j hjR; have g2 := (hS6.oldIII hv).cell r hlt; have g3 := (hS6.oldII hh).cell j (by rw [Hlen.out]; exact hjR); have g4 := (hS6.oldII hh).cell r (by rw [Hlen.out]; exact hlt)))
              have hS7 : St w.heap.size w w6 [row 2 v5 (iv (tmF m (plN (x3at R j) (xat H j) (x3at R j).length))), row 2 v6 (iv (tmF m (plN (x3at R r) (xat H r) (x3at R r).length)))] := hS6
              have xb := (hS7.rdI 0 rfl).ixe
              have xn := (hS7.rdI 1 rfl).ixe
              rw [tmF_len] at xb xn
              clear hS6 hS5 h5 h6 hSd c1 c2 d1 d2 x1 x2 y1 y2 KP1 KP2 g1 g2 g3 g4 hS
              go_wp2_with fail
              go_loopw [89, 16, 12] (fun i _ c wr => ∃ t : Nat, t ≤ m ∧ i = .int .i64 t ∧ c = .int .i64 ((brF m R H j + cntN (bkB R H j) t : Nat) : Int) ∧ St w.heap.size w wr [row 2 v5 (iv (tmF m (plN (x3at R j) (xat H j) (x3at R j).length))), row 2 v6 (iv (tmF m (plN (x3at R r) (xat H r) (x3at R r).length)))]) (fun i _ _ _ => m - (intOf i).toNat)
              case atStart => exact ⟨0, by omega, rfl, by simp [cntN], hS7⟩
              case round =>
                clear hS7
                obtain ⟨t, ht, rfl, rfl, hS⟩ := hrel
                by_cases htm : t < m
                · have q1 := fun s : SS w.heap.size w [row 2 v5 (iv (tmF m (plN (x3at R j) (xat H j) (x3at R j).length))), row 2 v6 (iv (tmF m (plN (x3at R r) (xat H r) (x3at R r).length)))] => (s.st.rdI 0 rfl).cell t (by rw [tmF_len]; exact htm)
                  have q2 := fun s : SS w.heap.size w [row 2 v5 (iv (tmF m (plN (x3at R j) (xat H j) (x3at R j).length))), row 2 v6 (iv (tmF m (plN (x3at R r) (xat H r) (x3at R r).length)))] => (s.st.rdI 1 rfl).cell t (by rw [tmF_len]; exact htm)
                  rw [tmF_nth htm, ← (HPl t).out] at q1
                  rw [tmF_nth htm, ← (HPr t).out] at q2
                  have xbt := xb (t : Int) t rfl htm
                  have xnt := xn (t : Int) t rfl htm
                  have hpm := pl_mul R H j r t
                  have HC := Lib.hid (show cntN (bkB R H j) (t + 1) = cntN (bkB R H j) t + if plR R H j t * plR R H r t = 1 then 1 else 0 by
                    rw [cntN, bkB, Hjr.out]; simp only [decide_eq_true_eq])
                  have hct := cntN_le (bkB R H j) t
                  generalize plR R H j t = p1 at *
                  generalize plR R H r t = p2 at *
                  generalize cntN (bkB R H j) t = cn at *
                  generalize brF m R H j = bj at *
                  have wp : IntKind.i64.wrap (p1 * p2) = p1 * p2 := IntWalk.i64_in _ (by omega)
                  have wc : IntKind.i64.wrap (((bj + cn : Nat) : Int) + 1) = ((bj + cn : Nat) : Int) + 1 := IntWalk.i64_in _ (by omega)
                  have wc2 : IntKind.i64.wrap ((bj : Int) + (cn : Int) + 1) = (bj : Int) + (cn : Int) + 1 := IntWalk.i64_in _ (by omega)
                  by_cases hone : p1 * p2 = 1
                  · have g1 : (p1 * p2 == 1) = true := eq_t hone
                    rw [if_pos hone] at HC
                    clear hone hpm
                    go_wp2_with fail
                    have hne : Nonempty (SS _ _ _) := ⟨⟨_, hS⟩⟩
                    refine wp_region_st (by kernel_rfl) (by kernel_rfl) hS ?_
                    repeat (go_big_quiet_step (fail))
                    refine wpQuiet_nil ?_
                    rintro _ ⟨s2, rfl⟩
                    have hS8 := s2.st
                    generalize s2.w = w8 at hS8 ⊢
                    go_wp2_with fail
                    go_roundw
                    case rel => exact ⟨t + 1, by omega, by go_num, by rw [HC.out]; first | rfl | (congr 1; omega) | (simp; omega), hS8⟩
                    case measure => simp [intOf]; omega
                  · have g1 : (p1 * p2 == 1) = false := eq_f hone
                    rw [if_neg hone] at HC
                    clear hone hpm
                    go_wp2_with fail
                    have hne : Nonempty (SS _ _ _) := ⟨⟨_, hS⟩⟩
                    refine wp_region_st (by kernel_rfl) (by kernel_rfl) hS ?_
                    repeat (go_big_quiet_step (fail))
                    refine wpQuiet_nil ?_
                    rintro _ ⟨s2, rfl⟩
                    have hS8 := s2.st
                    generalize s2.w = w8 at hS8 ⊢
                    go_wp2_with fail
                    go_roundw
                    case rel => exact ⟨t + 1, by omega, by go_num, by rw [HC.out]; first | rfl | (congr 1; omega) | (simp; omega), hS8⟩
                    case measure => simp [intOf]; omega
                · obtain rfl : t = m := by omega
                  rw [← HB.out]
                  go_wp2_with fail
                  go_roundw
                  case rel => exact ⟨r + 1, by omega, by omega, by go_num, by rw [Nat.add_sub_cancel], hS.out⟩
                  case measure => simp [intOf]; omega
            · obtain rfl : r = R.length := by omega
              go_wp2_with fail
              go_ret2
              exact ⟨_, 0, rfl, hS.out, fun _ => ⟨m, rfl, HV.out, HH.out, rfl⟩, fun _ _ _ _ => rfl⟩
end Go.Proofs.Ytgflhgkcmfjkgaa
end

section
/- slices.Sort at []int64: a row that a call owns, sorted. -/
namespace Go.Proofs.Ytgflhgkcmfjkgaa
set_option linter.unusedSimpArgs false
set_option linter.unusedVariables false
open Go.RowKit
/-- in rising order -/
def srt (xs : List Int) : List Int := xs.mergeSort fun x y => decide (x ≤ y)
end Go.Proofs.Ytgflhgkcmfjkgaa
end

section
/- Plain: the design of the pairs of a schedule, and its classes. -/
namespace Go.Proofs.Ytgflhgkcmfjkgaa
set_option linter.unusedSimpArgs false
set_option linter.unusedVariables false
section
variable {n : Nat} {R : List (List (List Int))}
/-- the pairs, in order -/
def dsL (R : List (List (List Int))) : List (List Int) := srtL R.flatten
theorem GdP.len {n : Int} {b : List Int} (h : GdP n b) : b.length = 2 := by rw [h.eq]; rfl
theorem VS.dnd (h : VS n R) : (dsL R).Nodup := (srtL_perm _).nodup_iff.2 h.nd
theorem VS.dst (h : VS n R) {i j : Nat} (hij : i < j) (hj : j < (dsL R).length) : cmpI (xat (dsL R) i) (xat (dsL R) j) < 0 := by
  have hp := List.pairwise_iff_getElem.1 (srtL_pw R.flatten) i j (by unfold dsL at hj; omega) hj hij
  have hle : cmpI (xat (dsL R) i) (xat (dsL R) j) ≤ 0 := by
    rw [xat_eq (show i < (dsL R).length by omega), xat_eq hj]
    exact of_decide_eq_true hp
  rcases Int.lt_or_eq_of_le hle with h1 | h1
  · exact h1
  · have e := cmpI_eq h1
    rw [xat_eq (show i < (dsL R).length by omega), xat_eq hj] at e
    exact absurd e (List.pairwise_iff_getElem.1 (List.nodup_iff_pairwise_ne.1 h.dnd) i j (by omega) hj hij)
end
section
variable {n : Nat} {R : List (List (List Int))}
end
end Go.Proofs.Ytgflhgkcmfjkgaa
end

section
/- Walks: arrays by value. Walks: valid arrays, equal arrays. -/
namespace Go.Proofs.Ytgflhgkcmfjkgaa
set_option linter.unusedSimpArgs false
set_option linter.unusedVariables false
open Go.RowKit


/-- an array as a value -/
def av (lv co : Int) (v : Value) : Value := .agg #[.int .i64 lv, .int .i64 co, v]

/-- a block that holds an array -/
def BoxA (w : World) (g : Nat) (lv co : Int) (v : Value) : Prop :=
  w.cell? ⟨g, 0, none⟩ = some (.int .i64 lv) ∧ w.cell? ⟨g, 1, none⟩ = some (.int .i64 co) ∧ w.cell? ⟨g, 2, none⟩ = some v
theorem cell_keep {w w' : World} (hb : Below w.heap.size w w') {p : Addr} {u : Value} (h : w.cell? p = some u) : w'.cell? p = some u := by
  rw [hb.cell (World.block_lt_of_cell? _ _ h)]; exact h
theorem BoxA.keep {w w' : World} {g : Nat} {lv co : Int} {v : Value} (h : BoxA w g lv co v) (hb : Below w.heap.size w w') : BoxA w' g lv co v :=
  ⟨cell_keep hb h.1, cell_keep hb h.2.1, cell_keep hb h.2.2⟩
end Go.Proofs.Ytgflhgkcmfjkgaa
end

section
/- The source of choices that the laws draw from. -/
namespace Go.Proofs.Ytgflhgkcmfjkgaa
set_option linter.unusedSimpArgs false
set_option linter.unusedVariables false
open Go.RowKit

/-- the cells of some bytes -/
def bv (bs : List UInt8) : List Value := bs.map fun b => Value.int .u8 b.toNat
def RdB (w : World) (v : Value) (bs : List UInt8) : Prop := Rd w v (bv bs)
theorem bv_len (bs : List UInt8) : (bv bs).length = bs.length := by simp [bv]
def bnth (bs : List UInt8) (j : Nat) : Int := ((bs.getD j 0).toNat : Int)
theorem bnth_bd (bs : List UInt8) (j : Nat) : 0 ≤ bnth bs j ∧ bnth bs j ≤ 255 := by
  unfold bnth; have := (bs.getD j 0).toNat_lt; omega
theorem bv_get {bs : List UInt8} {j : Nat} (h : j < bs.length) : (bv bs).getD j undef = .int .u8 (bnth bs j) := by
  simp [bv, bnth, List.getD, List.getElem?_eq_getElem h]

theorem Try.und_bs : Try.prog.underlying 22 = some (.slice 5) := by kernel_rfl
theorem Try.size_b : (Try.prog.info? 5).map (·.size) = some 1 := by kernel_rfl

section
variable {w w' : World} {v : Value} {bs : List UInt8}
theorem RdB.le (h : RdB w v bs) : bs.length ≤ 9223372036854775807 := by have := h.sl.le; rwa [bv_len] at this
theorem RdB.len (h : RdB w v bs) (ty : TypeId) (W : World) : (Builtin.len_ #[22] ty #[v]).run Try.prog W = .ok (.int .i64 bs.length) W := by
  have := run_len_sl (P := Try.prog) h.sl 22 ty Try.und_bs W; rwa [bv_len] at this
theorem RdB.ix (h : RdB w v bs) (k : IntKind) (i : Int) (h0 : 0 ≤ i) (hi : i < bs.length) (W : World) :
    (Instr.indexAt 22 v (.int k i)).run Try.prog W = .ok (.pointer (some (el v i.toNat))) W :=
  run_ix_sl (P := Try.prog) h.sl 22 Try.und_bs Try.size_b k i h0 (by rw [bv_len]; exact hi) W
theorem RdB.cell (h : RdB w v bs) (j : Nat) (hj : j < bs.length) : w.cell? (el v j) = some (.int .u8 (bnth bs j)) := by
  rw [Rd.cell h (by rw [bv_len]; exact hj), bv_get hj]
theorem RdB.keep (h : RdB w v bs) (hb : Below w.heap.size w w') : RdB w' v bs := Rd.keep h hb
theorem RdB.sh (h : RdB w v bs) : ∃ a n c, v = .slice a n c := by obtain ⟨a, c, hv, _⟩ := h.sl; exact ⟨a, _, c, hv⟩
end
theorem St.oldB {w0 w : World} {L : List Ent} {v : Value} {bs : List UInt8} (h : St w0.heap.size w0 w L) (hr : RdB w0 v bs) : RdB w v bs := Rd.keep hr h.below

/-- the source lies at the head of what is owned, at most K bytes were drawn -/
def Src (w0 w : World) (cv : Value) (g : Nat) (K : Nat) (L : List Ent) : Prop :=
  ∃ p seed : Int, 0 ≤ p ∧ p ≤ K ∧ St w0.heap.size w0 w (box 101 g [cv, .int .i64 p, .int .u64 seed] :: L)

def AnInt (lo hi : Int) (R : World → Prop) (e : Ending) (w' : World) : Prop := ∃ x : Int, lo ≤ x ∧ x ≤ hi ∧ e = .returned (.int .i64 x) ∧ R w'

theorem Src.mono {w0 w : World} {cv : Value} {g K K' : Nat} {L : List Ent} (h : Src w0 w cv g K L) (hk : K ≤ K') : Src w0 w cv g K' L := by
  obtain ⟨p, s, h0, h1, h2⟩ := h; exact ⟨p, s, h0, by omega, h2⟩
theorem Src.st {w0 w : World} {cv : Value} {g K : Nat} {L : List Ent} (h : Src w0 w cv g K L) : St w0.heap.size w0 w L := by
  obtain ⟨p, s, h0, h1, h2⟩ := h; exact h2.sub (List.sublist_cons_self _ _)

theorem and255 (x : Int) : 0 ≤ wrap64 (bits BinOp.and IntKind.u64 (IntKind.u64.wrap x / 1099511627776) 255) ∧ wrap64 (bits BinOp.and IntKind.u64 (IntKind.u64.wrap x / 1099511627776) 255) ≤ 255 := by
  have h1 : 0 ≤ IntKind.u64.wrap x / 1099511627776 ∧ IntKind.u64.wrap x / 1099511627776 < 18446744073709551616 := by
    simp [IntKind.wrap, IntKind.bits, IntKind.signed]; omega
  rw [u64_and _ _ h1.1 h1.2 (by omega) (by omega)]
  have e255 : (255 : Int).toNat = 255 := rfl
  have h2 := Nat.and_le_right (n := (IntKind.u64.wrap x / 1099511627776).toNat) (m := (255 : Int).toNat)
  rw [e255] at h2 ⊢
  unfold wrap64
  omega

set_option maxHeartbeats 1000000 in
theorem next_c (w0 w : World) (cv : Value) (bs : List UInt8) (g K : Nat) (L : List Ent) (hb : RdB w0 cv bs) (h : Src w0 w cv g K L) (hK : K < 1099511627776) :
    Calls Try.prog 66 #[.pointer (some ⟨g, 0, none⟩)] w (AnInt 0 255 fun w' => Src w0 w' cv g (K + 1) L) := by
  obtain ⟨p, seed, h0, h1, hS⟩ := h
  obtain ⟨q, rfl⟩ := Int.eq_ofNat_of_zero_le h0
  have hc0 := hS.bcell 0 rfl 0 rfl
  have hc1 := hS.bcell 0 rfl 1 rfl
  have hc2 := hS.bcell 0 rfl 2 rfl
  have hf := hS.bfree 0 rfl
  have hbw := hS.oldB hb
  have hln := hb.len
  have hix := hb.ix
  have hcell := hbw.cell
  have hle := hb.le
  have hbd := bnth_bd bs q
  obtain ⟨hb0, hb1⟩ := hbd
  by_cases hlt : q < bs.length
  · have hlt' : q + 1 ≤ bs.length := hlt
    go_enter Try.func66, Try.ntmps66
    go_wp2_with fail
    go_quiet (fail)
    go_wp2_with fail
    go_quiet (fail)
    go_wp2_with fail
    refine abs_wp (((hS.drewN _).bstore 0 rfl 1 _).bstore 0 rfl 2 _) ?_
    intro w2 hS2
    clear hc0 hc1 hc2 hf
    have hc0 := hS2.bcell 0 rfl 0 rfl
    have hc1 := hS2.bcell 0 rfl 1 rfl
    go_quiet (fail)
    go_wp2_with fail
    go_ret
    exact ⟨_, hb0, hb1, rfl, _, _, by omega, by omega, hS2.drewN _⟩
  · have hlt' : ¬ q + 1 ≤ bs.length := by omega
    go_enter Try.func66, Try.ntmps66
    go_wp2_with fail
    go_quiet (fail)
    go_wp2_with fail
    refine abs_wp (((hS.drewN _).bstore 0 rfl 1 _).bstore 0 rfl 2 _) ?_
    intro w2 hS2
    clear hc0 hc1 hc2 hf
    have hc0 := hS2.bcell 0 rfl 0 rfl
    have hc1 := hS2.bcell 0 rfl 1 rfl
    have hc2 := hS2.bcell 0 rfl 2 rfl
    go_quiet (fail)
    go_wp2_with fail
    go_ret
    exact ⟨_, (and255 _).1, (and255 _).2, rfl, _, _, by omega, by omega, hS2.drewN _⟩

set_option maxHeartbeats 1000000 in
theorem pick_c (w0 w : World) (cv : Value) (bs : List UInt8) (g K : Nat) (L : List Ent) (n : Int) (hb : RdB w0 cv bs) (h : Src w0 w cv g K L) (hK : K < 1000000000000) :
    Calls Try.prog 31 #[.pointer (some ⟨g, 0, none⟩), .int .i64 n] w (AnInt 0 (max (n - 1) 0) fun w' => Src w0 w' cv g (K + 2) L) := by
  by_cases h1 : n ≤ 1
  · go_enter Try.func31, Try.ntmps31
    go_wp2_with fail
    go_ret
    exact ⟨0, by omega, by omega, rfl, h.mono (by omega)⟩
  · by_cases h2 : n ≤ 200
    · go_enter Try.func31, Try.ntmps31
      go_wp2_with fail
      refine (next_c w0 w cv bs g K L hb h (by omega)).mono ?_
      rintro e w1 ⟨x, hx0, hx1, rfl, h3⟩
      go_wp2_with fail
      go_ret
      have := Int.emod_nonneg x (show n ≠ 0 by omega)
      have := Int.emod_lt_of_pos x (show 0 < n by omega)
      exact ⟨_, by omega, by omega, rfl, h3.mono (by omega)⟩
    · go_enter Try.func31, Try.ntmps31
      go_wp2_with fail
      refine (next_c w0 w cv bs g K L hb h (by omega)).mono ?_
      rintro e w1 ⟨x, hx0, hx1, rfl, h3⟩
      go_wp2_with fail
      refine (next_c w0 w1 cv bs g (K + 1) L hb h3 (by omega)).mono ?_
      rintro e w2 ⟨y, hy0, hy1, rfl, h4⟩
      go_wp2_with fail
      go_ret
      have := Int.emod_nonneg (x * 256 + y) (show n ≠ 0 by omega)
      have := Int.emod_lt_of_pos (x * 256 + y) (show 0 < n by omega)
      exact ⟨_, by omega, by omega, rfl, h4.mono (by omega)⟩

def ABool (R : World → Prop) (e : Ending) (w' : World) : Prop := ∃ x : Bool, e = .returned (.bool x) ∧ R w'

theorem one_c (w0 w : World) (cv : Value) (bs : List UInt8) (g K : Nat) (L : List Ent) (n : Int) (hb : RdB w0 cv bs) (h : Src w0 w cv g K L) (hK : K < 1000000000000) :
    Calls Try.prog 52 #[.pointer (some ⟨g, 0, none⟩), .int .i64 n] w (ABool fun w' => Src w0 w' cv g (K + 2) L) := by
  go_enter Try.func52, Try.ntmps52
  go_wp2_with fail
  refine (pick_c w0 w cv bs g K L n hb h hK).mono ?_
  rintro e w1 ⟨x, hx0, hx1, rfl, h3⟩
  go_wp2_with fail
  go_ret
  exact ⟨_, rfl, h3⟩

/-- one of some numbers: whatever holds of all of them holds of it -/
def AmongPost (xs : List Int) (R : World → Prop) (e : Ending) (w' : World) : Prop := ∃ x ∈ xs, e = .returned (.int .i64 x) ∧ R w'

theorem among_c (w0 w : World) (cv : Value) (bs : List UInt8) (g K : Nat) (L : List Ent) (v : Value) (xs : List Int) (hb : RdB w0 cv bs) (h : Src w0 w cv g K (row 2 v (iv xs) :: L)) (hne : 0 < xs.length)
    (hK : K < 1000000000000) :
    Calls Try.prog 82 #[.pointer (some ⟨g, 0, none⟩), v] w (AmongPost xs fun w' => Src w0 w' cv g (K + 2) L) := by
  have hr : RdI w v xs := by obtain ⟨p, s, h0, h1, h2⟩ := h; exact h2.rdI 1 rfl
  have hln := hr.len
  have hix := hr.ix
  have hle := hr.le
  go_enter Try.func82, Try.ntmps82
  go_wp2_with fail
  refine (pick_c w0 w cv bs g K _ _ hb h hK).mono ?_
  rintro e w1 ⟨x, hx0, hx1, rfl, h3⟩
  obtain ⟨k, rfl⟩ := Int.eq_ofNat_of_zero_le hx0
  have hk : k < xs.length := by omega
  have hr1 : RdI w1 v xs := by obtain ⟨p, s, h0, h1, h2⟩ := h3; exact h2.rdI 1 rfl
  have hc := hr1.cell
  go_wp2_with fail
  go_ret
  obtain ⟨p, s, h0, h1, h2⟩ := h3
  exact ⟨nth xs k, nth_mem hk, rfl, p, s, h0, h1, h2.sub (List.Sublist.cons_cons _ (List.sublist_cons_self _ _))⟩

theorem l00From_c (w : World) (cv : Value) (bs : List UInt8) (hb : RdB w cv bs) :
    Calls Try.prog 30 #[cv] w fun e w' => e = .returned (.pointer (some ⟨w.heap.size, 0, none⟩)) ∧ Src w w' cv w.heap.size 0 [] := by
  obtain ⟨av, n, c, rfl⟩ := hb.sh
  go_enter Try.func30, Try.ntmps30
  go_wp2_with fail
  go_ret
  exact ⟨rfl, 0, 0, by omega, by omega, (St.refl w).newbox _ _⟩
end Go.Proofs.Ytgflhgkcmfjkgaa
end

section
/- The source of choices: what lies beside it. -/
namespace Go.Proofs.Ytgflhgkcmfjkgaa
set_option linter.unusedSimpArgs false
set_option linter.unusedVariables false
open Go.RowKit

theorem Src.call {w0 w w' : World} {cv : Value} {g K : Nat} {L L' : List Ent} (h : Src w0 w cv g K L) (h' : St w.heap.size w w' L') : Src w0 w' cv g K (L ++ L') := by
  obtain ⟨p, s, h0, h1, hS⟩ := h
  exact ⟨p, s, h0, h1, hS.call h'⟩
theorem Src.sub {w0 w : World} {cv : Value} {g K : Nat} {L L' : List Ent} (h : Src w0 w cv g K L) (h' : L'.Sublist L) : Src w0 w cv g K L' := by
  obtain ⟨p, s, h0, h1, hS⟩ := h
  exact ⟨p, s, h0, h1, hS.sub (h'.cons_cons _)⟩
theorem Src.rdI {w0 w : World} {cv : Value} {g K : Nat} {L : List Ent} (h : Src w0 w cv g K L) (i : Nat) {e : TypeId} {v : Value} {xs : List Int} (hi : L[i]? = some (row e v (iv xs))) : RdI w v xs := by
  obtain ⟨p, s, h0, h1, hS⟩ := h
  exact hS.rdI (i + 1) hi

theorem St.emp0 {w : World} : St w.heap.size w (w.alloc (.cells #[] 2)) [row 2 (.slice (some ⟨w.heap.size, 0, none⟩) 0 0) (iv [])] :=
  (St.refl w).new 2 #[] (by simp)

theorem Src.perm {w0 w : World} {cv : Value} {g K : Nat} {L L' : List Ent} (h : Src w0 w cv g K L) (h' : L.Perm L') : Src w0 w cv g K L' := by
  obtain ⟨p, s, h0, h1, hS⟩ := h
  exact ⟨p, s, h0, h1, hS.perm (h'.cons _)⟩
theorem Src.call0 {w0 w w' : World} {cv : Value} {g K : Nat} {L : List Ent} (h : Src w0 w cv g K L) (h' : St w.heap.size w w' []) : Src w0 w' cv g K L := by
  have := h.call h'; rwa [List.append_nil] at this
theorem Src.rd {w0 w : World} {cv : Value} {g K : Nat} {L : List Ent} (h : Src w0 w cv g K L) (i : Nat) {e : TypeId} {v : Value} {us : List Value} (hi : L[i]? = some (row e v us)) : Rd w v us := by
  obtain ⟨p, s, h0, h1, hS⟩ := h
  exact hS.rd (i + 1) hi
theorem Src.box {w0 w : World} {cv : Value} {g K : Nat} {L : List Ent} (h : Src w0 w cv g K L) (i : Nat) {e : TypeId} {gf : Nat} {us : List Value} (hi : L[i]? = some (Go.Proofs.Ytgflhgkcmfjkgaa.box e gf us)) (j : Nat) {u : Value} (hj : us[j]? = some u) : w.cell? ⟨gf, j, none⟩ = some u := by
  obtain ⟨p, s, h0, h1, hS⟩ := h
  exact hS.bcell (i + 1) hi j hj
theorem Src.bfree {w0 w : World} {cv : Value} {g K : Nat} {L : List Ent} (h : Src w0 w cv g K L) (i : Nat) {e : TypeId} {gf : Nat} {us : List Value} (hi : L[i]? = some (Go.Proofs.Ytgflhgkcmfjkgaa.box e gf us)) (j : Nat) : w.frozen? ⟨gf, j, none⟩ = false := by
  obtain ⟨p, s, h0, h1, hS⟩ := h
  exact hS.bfree (i + 1) hi j
theorem Src.bstore {w0 w : World} {cv : Value} {g K : Nat} {L : List Ent} (h : Src w0 w cv g K L) (i : Nat) {e : TypeId} {gf : Nat} {us : List Value} (hi : L[i]? = some (Go.Proofs.Ytgflhgkcmfjkgaa.box e gf us)) (j : Nat) (u : Value) :
    Src w0 (w.setCell ⟨gf, j, none⟩ u) cv g K (L.set i (Go.Proofs.Ytgflhgkcmfjkgaa.box e gf (us.set j u))) := by
  obtain ⟨p, s, h0, h1, hS⟩ := h
  exact ⟨p, s, h0, h1, hS.bstore (i + 1) hi j u⟩
/-- a new block behind a pointer, ahead of the others -/
theorem Src.newboxF {w0 w : World} {cv : Value} {g K : Nat} {L : List Ent} (h : Src w0 w cv g K L) (e : TypeId) (cs : Array Value) : Src w0 (w.alloc (.cells cs e)) cv g K (Go.Proofs.Ytgflhgkcmfjkgaa.box e w.heap.size cs.toList :: L) := by
  obtain ⟨p, s, h0, h1, hS⟩ := h
  exact ⟨p, s, h0, h1, (hS.newboxF e cs).perm (List.Perm.swap _ _ _)⟩
theorem Src.drew {w0 w : World} {cv : Value} {g K : Nat} {L : List Ent} (h : Src w0 w cv g K L) : Src w0 w.drew cv g K L := by
  obtain ⟨p, s, h0, h1, hS⟩ := h
  exact ⟨p, s, h0, h1, hS.drew⟩
/-- a new empty row of integers, ahead of the others -/
theorem Src.empI {w0 w : World} {cv : Value} {g K : Nat} {L : List Ent} (h : Src w0 w cv g K L) :
    Src w0 (w.alloc (.cells #[] 2)) cv g K (row 2 (.slice (some ⟨w.heap.size, 0, none⟩) 0 0) (iv []) :: L) :=
  (h.call St.emp0).perm List.perm_append_comm
theorem St.emp0II {w : World} : St w.heap.size w (w.alloc (.cells #[] 30)) [row 30 (.slice (some ⟨w.heap.size, 0, none⟩) 0 0) []] :=
  (St.refl w).new 30 #[] (by simp)
/-- a new empty row of rows, ahead of the others -/
theorem Src.empII {w0 w : World} {cv : Value} {g K : Nat} {L : List Ent} (h : Src w0 w cv g K L) :
    Src w0 (w.alloc (.cells #[] 30)) cv g K (row 30 (.slice (some ⟨w.heap.size, 0, none⟩) 0 0) [] :: L) :=
  (h.call St.emp0II).perm List.perm_append_comm

theorem at_app {M L : List Ent} {i : Nat} {x : Ent} (h : L[i]? = some x) : (M ++ L)[M.length + i]? = some x := by
  rw [List.getElem?_append_right (by omega), Nat.add_sub_cancel_left]; exact h
end Go.Proofs.Ytgflhgkcmfjkgaa
end

section
/- Walks: what the laws on numbers draw. -/
namespace Go.Proofs.Ytgflhgkcmfjkgaa
set_option linter.unusedSimpArgs false
set_option linter.unusedVariables false
open Go.RowKit

theorem Src.lit {w0 w : World} {cv : Value} {g K : Nat} {L : List Ent} (h : Src w0 w cv g K L) (xs : List Int) (hm : xs.length ≤ 1000) :
    Src w0 (w.alloc (.cells (iv xs).toArray 2)) cv g K (row 2 (.slice (some ⟨w.heap.size, 0, none⟩) xs.length xs.length) (iv xs) :: L) := by
  obtain ⟨p, s, h0, h1, hS⟩ := h
  refine ⟨p, s, h0, h1, ?_⟩
  have h2 := hS.new 2 (iv xs).toArray (by simp [iv_len]; unfold maxLen; omega)
  simp only [List.size_toArray, iv_len] at h2
  refine h2.perm ?_
  refine List.Perm.trans (List.perm_append_comm) ?_
  simp only [List.cons_append, List.nil_append]
  exact List.Perm.swap _ _ _

/-- one of some numbers that are written out -/
theorem among_lit (xs : List Int) (w0 w : World) (cv : Value) (bs : List UInt8) (g K : Nat) (L : List Ent) (hb : RdB w0 cv bs) (h : Src w0 w cv g K L) (hne : 0 < xs.length ∧ xs.length ≤ 1000)
    (hK : K < 1000000000000) :
    Calls Try.prog 82 #[.pointer (some ⟨g, 0, none⟩), .slice (some ⟨w.heap.size, 0, none⟩) xs.length xs.length] (w.alloc (.cells (iv xs).toArray 2)) (AmongPost xs fun w' => Src w0 w' cv g (K + 2) L) :=
  among_c w0 _ cv bs g K L _ xs hb (h.lit xs hne.2) hne.1 hK

theorem b10Long_c (w : World) (cv : Value) (bs : List UInt8) (hb : RdB w cv bs) :
    Calls Try.prog 6 #[cv] w fun e w' => e = .returned (.bool (decide (1048576 < bs.length))) ∧ w = w' := by
  have hln := hb.len
  go_enter Try.func6, Try.ntmps6
  go_wp2_with fail
  go_ret
  exact ⟨ret_bool (by simp; omega), rfl⟩

end Go.Proofs.Ytgflhgkcmfjkgaa
end

section
/- Walks: valid designs of both sides, equal designs. -/
namespace Go.Proofs.Ytgflhgkcmfjkgaa
set_option linter.unusedSimpArgs false
set_option linter.unusedVariables false
open Go.RowKit

def BoxD (w : World) (g : Nat) (P : Int) (v : Value) : Prop := w.cell? ⟨g, 0, none⟩ = some (.int .i64 P) ∧ w.cell? ⟨g, 1, none⟩ = some v
theorem BoxD.keep {w0 w : World} {g : Nat} {P : Int} {v : Value} (h : BoxD w0 g P v) (hb : Below w0.heap.size w0 w) : BoxD w g P v := by
  obtain ⟨h1, h2⟩ := h
  have hg : g < w0.heap.size := by
    rcases Nat.lt_or_ge g w0.heap.size with h | h
    · exact h
    · rw [World.cell?, Array.getElem?_eq_none h] at h1; cases h1
  exact ⟨by rw [hb.cell hg]; exact h1, by rw [hb.cell hg]; exact h2⟩
end Go.Proofs.Ytgflhgkcmfjkgaa
end

section
/- Walks: binary search among rows, a class of blocks, a resolution, of the program. -/
namespace Go.Proofs.Ytgflhgkcmfjkgaa
set_option linter.unusedSimpArgs false
set_option linter.unusedVariables false
open Go.RowKit
attribute [local go_sem ↓] Go.wp_at_zero Go.wp_at_succ

set_option maxHeartbeats 4000000 in
set_option maxRecDepth 100000 in
theorem BinSearchR_c (v vx : Value) (us : List Value) (A : List (List Int)) (k : Nat) (w : World) (hv : RII w v us A) (hx : RdI w vx (xat A k)) (hk : k < A.length) (hlen : A.length ≤ 4294967296)
    (hst : ∀ i j, i < j → j < A.length → cmpI (xat A i) (xat A j) < 0) :
    Calls Try.prog 41 #[v, vx, .func (.func 35) #[] #[]] w fun e w' => e = .returned (.tuple #[.int .i64 k, .bool true]) ∧ w = w' := by
  have hln := hv.len
  have hix := hv.ixe
  have hcf := callR_cmp
  have KC := fun j hj => Lib.hid (Compare_c _ _ _ _ w (hv.row j hj) hx)
  have HL := Lib.hid hst
  clear hst
  go_enter Try.func41, Try.ntmps41
  go_wp2_with fail
  go_loopw [9, 10, 11] (fun i j _ wr => ∃ lo hi : Nat, i = .int .i64 lo ∧ j = .int .i64 hi ∧ lo ≤ k ∧ k ≤ hi ∧ hi ≤ A.length ∧ w = wr) (fun i j _ _ => (intOf j - intOf i).toNat)
  case atStart => exact ⟨0, A.length, rfl, rfl, by omega, by omega, by omega, rfl⟩
  case round =>
    obtain ⟨lo, hi, rfl, rfl, h1, h2, h3, rfl⟩ := hrel
    by_cases hlt : lo < hi
    · obtain ⟨m, hm⟩ : ∃ m, (lo + hi) / 2 = m := ⟨_, rfl⟩
      have hml : lo ≤ m ∧ m < hi := by omega
      have hm1 : ((lo : Int) + (hi : Int)) / 2 = (m : Int) := by omega
      have hxm := hix (m : Int) m rfl (by omega)
      have hcm := hv.cell m (by omega)
      have KC := KC m (by omega)
      clear hm
      by_cases hmk : m < k
      · have hc := HL.out m k hmk hk
        generalize cmpI (xat A m) (xat A k) = z at KC hc
        go_wp2_with (go_at_call 35; refine KC.out.mono ?_; rintro e2 w4 ⟨rfl, hw4⟩; subst hw4)
        go_roundw
        case rel => exact ⟨m + 1, hi, by go_num, rfl, by omega, h2, h3, by first | trivial | rfl⟩
        case measure => simp [intOf]; omega
      · have hc : ¬ cmpI (xat A m) (xat A k) < 0 := by
          by_cases e : m = k
          · rw [e, cmpI_self]; omega
          · have := HL.out k m (by omega) (by omega)
            have h4 := cmpI_neg (xat A m) (xat A k)
            omega
        generalize cmpI (xat A m) (xat A k) = z at KC hc
        go_wp2_with (go_at_call 35; refine KC.out.mono ?_; rintro e2 w4 ⟨rfl, hw4⟩; subst hw4)
        go_roundw
        case rel => exact ⟨lo, m, rfl, rfl, h1, by omega, by omega, by first | trivial | rfl⟩
        case measure => simp [intOf]; omega
    · obtain rfl : lo = k := by omega
      have hxm := hix (lo : Int) lo rfl hk
      have hcm := hv.cell lo hk
      have KC := KC lo hk
      rw [cmpI_self] at KC
      go_wp2_with (go_at_call 35; refine KC.out.mono ?_; rintro e2 w4 ⟨rfl, hw4⟩; subst hw4)
      go_ret2
      exact ⟨rfl, rfl⟩
/-- which points are covered -/
structure CV (n : Nat) (T : List Int) (P : List Bool) : Prop where
  len : P.length = n
  el : ∀ x : Nat, x < n → bat P x = decide ((x : Int) ∈ T)
theorem CV.nil (n : Nat) : CV n [] (List.replicate n false) := ⟨by simp, fun x _ => by rw [bat_rep]; simp⟩
theorem CV.snoc {n : Nat} {T : List Int} {P : List Bool} (h : CV n T P) {a : Nat} (ha : a < n) : CV n (T ++ [(a : Int)]) (P.set a true) := by
  refine ⟨by simp [h.len], fun x hx => ?_⟩
  rw [bat_set (by rw [h.len]; exact ha), h.el x hx]
  by_cases e : a = x
  · subst e; simp
  · rw [if_neg e]
    have : ((x : Int) ∈ T ++ [(a : Int)]) ↔ (x : Int) ∈ T := by
      simp only [List.mem_append, List.mem_singleton]
      constructor
      · rintro (h | h)
        · exact h
        · omega
      · exact .inl
    simp only [this]
end Go.Proofs.Ytgflhgkcmfjkgaa
end

section
/- Posts: a row and a code; a list of rows and a code. -/
namespace Go.Proofs.Ytgflhgkcmfjkgaa
set_option linter.unusedSimpArgs false
set_option linter.unusedVariables false
/-- a list of rows of its own, and a code -/
def MakesC2 (w : World) (A : List (List Int)) (c : Int) (e : Ending) (w' : World) : Prop := ∃ v us, e = .returned (.tuple #[v, .int .i64 c]) ∧ us.length = A.length ∧ St w.heap.size w w' (own2 v us A)
end Go.Proofs.Ytgflhgkcmfjkgaa
end

section
/- Walks: home teams of the circle method, of the program. -/
namespace Go.Proofs.Ytgflhgkcmfjkgaa
set_option linter.unusedSimpArgs false
set_option linter.unusedVariables false
open Go.RowKit
attribute [local go_sem ↓] Go.wp_at_zero Go.wp_at_succ

set_option maxHeartbeats 4000000 in
set_option maxRecDepth 100000 in
theorem place_c (a b : Int) (k : Nat) (fst : Bool) (gr gh jr jh i : Nat) (vr vh : Value) (us : List Value) (q : List (List Int)) (hs : List Int) (w0 w : World) (L : List Ent) (hS : St w0.heap.size w0 w L)
    (hbr : L[jr]? = some (box 33 gr [vr])) (hbh : L[jh]? = some (box 30 gh [vh])) (hrow : L[i]? = some (row 2 vh (iv hs))) (hji : jh ≠ i) (hq : RII w0 vr us q) (hk : k < q.length) (hpk : xat q k = prL a b) (hlq : q.length ≤ 1000)
    (hst : ∀ i j, i < j → j < q.length → cmpI (xat q i) (xat q j) < 0) (hl : hs.length = q.length) :
    Calls Try.prog 49 #[.int .i64 a, .int .i64 b, .bool fst, .pointer (some ⟨gr, 0, none⟩), .pointer (some ⟨gh, 0, none⟩)] w
      fun e w' => e = .returned (.tuple #[]) ∧ St w0.heap.size w0 w' (L.set i (row 2 vh (iv (hs.set k (if fst = true then a else b))))) := by
  have c0 := hS.bcell jr hbr 0 rfl
  have hSd := hS.drew
  have hr : ∀ W, St w0.heap.size w0 W L → _ := fun W h => h.bcell jr hbr 0 rfl
  have hh : ∀ W, St w0.heap.size w0 W L → _ := fun W h => h.bcell jh hbh 0 rfl
  have KP := fun W => Lib.hid (paired_c a b W)
  have KB := fun W vx (h : St w0.heap.size w0 W L) (hx : RdI W vx (prL a b)) => Lib.hid (BinSearchR_c vr vx us q k W (h.oldII hq) (by rw [hpk]; exact hx) hk (by omega) hst)
  have hxv := (hS.rdI i hrow).ixe
  rw [hl] at hxv
  have xk := hxv (k : Int) k rfl hk
  have Hk := Lib.hid (show k < hs.length by rw [hl]; exact hk)
  clear hst hpk
  cases fst
  · go_enter Try.func49, Try.ntmps49
    go_wp2_with fail
    go_region_held3 (fun w' => w'.cell? ⟨gr, 0, none⟩ = some vr) (((try dsimp only); (repeat' apply And.intro); all_goals (repeat (first | assumption | exact cell_dr (by assumption) | refine cell_dr ?_ | refine cell_al ?_ | refine cell_sc (by assumption) ?_)))) (first
      | (go_at_call 33; refine (KP _).out.mono ?_; rintro e2 w2 ⟨u, rfl, h2⟩; have hS2 := hSd.call h2; have hr2 := h2.rdI 0 rfl; have hS3 := hS2.sub (List.sublist_append_left _ _); have g1 := hr _ hS3)
      | (have hz := hS3; clear hz; go_at_call 41; refine (KB _ _ hS3 hr2).out.mono ?_; rintro e2 w4 ⟨rfl, hw4⟩; subst hw4))
    have g2 := hh _ hS3
    go_wp2_with (refine stoI hS3 i hrow k Hk.out rfl _ _ rfl rfl _ rfl ?_; intro w5 hS5)
    refine bodyPost_end (results_none rfl _ _ _) rfl ?_
    exact ⟨rfl, hS5⟩
  · go_enter Try.func49, Try.ntmps49
    go_wp2_with fail
    go_region_held3 (fun w' => w'.cell? ⟨gr, 0, none⟩ = some vr) (((try dsimp only); (repeat' apply And.intro); all_goals (repeat (first | assumption | exact cell_dr (by assumption) | refine cell_dr ?_ | refine cell_al ?_ | refine cell_sc (by assumption) ?_)))) (first
      | (go_at_call 33; refine (KP _).out.mono ?_; rintro e2 w2 ⟨u, rfl, h2⟩; have hS2 := hSd.call h2; have hr2 := h2.rdI 0 rfl; have hS3 := hS2.sub (List.sublist_append_left _ _); have g1 := hr _ hS3)
      | (have hz := hS3; clear hz; go_at_call 41; refine (KB _ _ hS3 hr2).out.mono ?_; rintro e2 w4 ⟨rfl, hw4⟩; subst hw4))
    have g2 := hh _ hS3
    have hil : i < L.length := (List.getElem?_eq_some_iff.1 hrow).1
    have hrow2 := fun u => (show (L.set i u)[i]? = some u from List.getElem?_set_self hil)
    go_wp2_with (first
      | (have hz := hS5; clear hz; refine stoI hS5 i (hrow2 _) k (by rw [List.length_set]; exact Hk.out) rfl _ _ rfl rfl _ rfl ?_; intro w6 hS6; rw [List.set_set, List.set_set] at hS6)
      | (refine stoI hS3 i hrow k Hk.out rfl _ _ rfl rfl _ rfl ?_; intro w5 hS5; have g3 := hS5.bcell jh (by rw [List.getElem?_set_ne (Ne.symm hji)]; exact hbh) 0 rfl))
    refine bodyPost_end (results_none rfl _ _ _) rfl ?_
    exact ⟨rfl, hS6⟩
/-- the pairs that are placed: those of them that are in a round have their home teams -/
def HmI (n r i : Nat) (hs : List Int) : Prop := hs.length = (rrR n r).length ∧ ∀ k, k < (rrR n r).length → xat (rrR n r) k ∈ rrP n r i → nth hs k = hmP n r (xat (rrR n r) k)
theorem prL_comm (a b : Int) : prL a b = prL b a := by
  unfold prL
  by_cases h1 : b < a
  · rw [if_pos h1, if_neg (by omega)]
  · by_cases h2 : a < b
    · rw [if_neg h1, if_pos h2]
    · rw [if_neg h1, if_neg h2, show a = b by omega]
theorem HmI.step {n r i j k : Nat} {hs : List Int} {p : List Int} {z : Int} (h : HmI n r i hs) (hk : k < (rrR n r).length) (hp : xat (rrR n r) k = p) (hz : z = hmP n r p) (hn : ∀ x, x ∈ rrP n r j → x ∈ rrP n r i ∨ x = p) (hnd : ∀ k', k' < (rrR n r).length → xat (rrR n r) k' = p → k' = k) : HmI n r j (hs.set k z) := by
  refine ⟨by rw [List.length_set]; exact h.1, fun k' hk' hm => ?_⟩
  by_cases e : k' = k
  · subst e
    rw [nth_eq (by rw [List.length_set, h.1]; exact hk'), List.getElem_set_self, hp]; exact hz
  · have h1 : nth (hs.set k z) k' = nth hs k' := by
      rw [nth_eq (by rw [List.length_set, h.1]; exact hk'), nth_eq (by rw [h.1]; exact hk'), List.getElem_set_ne (Ne.symm e)]
    rw [h1]
    exact h.2 k' hk' ((hn _ hm).resolve_right fun hx => e (hnd k' hk' hx))
theorem odB_t {x : Nat} : odB x = true ↔ x % 2 = 1 := by unfold odB; exact Nat.beq_eq ▸ Iff.rfl
theorem beqF {a b : Nat} (h : a ≠ b) : Nat.beq a b = false := by
  cases e : Nat.beq a b with
  | false => rfl
  | true => exact absurd (Nat.eq_of_beq_eq_true e) h
theorem hm_first {n r : Nat} (he : n % 2 = 0) (h2 : 2 ≤ n) (hr : r < n - 1) : (if decide (r % 2 = 0) = true then (r : Int) else ((n - 1 : Nat) : Int)) = hmP n r (prL (r : Int) ((n - 1 : Nat) : Int)) := by
  rw [show prL (r : Int) ((n - 1 : Nat) : Int) = [(r : Int), ((n - 1 : Nat) : Int)] from by rw [prL, if_neg (by omega)], hmP]
  simp only [nth, List.getD_cons_zero, List.getD_cons_succ, Int.toNat_natCast]
  have e1 : Nat.beq (r + 1) n = false := beqF (by omega)
  have e2 : Nat.beq r r = true := Nat.beq_refl r
  rw [hmB, e1, cond_false, e2, cond_true]
  by_cases h : r % 2 = 0
  · rw [if_pos (by simpa using h), if_pos]
    have : odB r = false := by rw [Bool.eq_false_iff]; intro hh; have := odB_t.1 hh; omega
    rw [this]; rfl
  · rw [if_neg (by simpa using h), if_neg]
    have : odB r = true := odB_t.2 (by omega)
    rw [this]; simp
theorem hm_pairs {n r i : Nat} (he : n % 2 = 0) (h2 : 2 ≤ n) (hr : r < n - 1) (hi : 1 ≤ i) (hi2 : i < n / 2) :
    (if decide (i % 2 = 1) = true then (((r + i) % (n - 1) : Nat) : Int) else (((r + (n - 1) - i) % (n - 1) : Nat) : Int)) = hmP n r (prL (((r + i) % (n - 1) : Nat) : Int) (((r + (n - 1) - i) % (n - 1) : Nat) : Int)) := by
  obtain ⟨m, hm⟩ : ∃ m, n - 1 = m := ⟨_, rfl⟩
  obtain ⟨a, ha⟩ : ∃ a, (r + i) % (n - 1) = a := ⟨_, rfl⟩
  obtain ⟨b, hb⟩ : ∃ b, (r + (n - 1) - i) % (n - 1) = b := ⟨_, rfl⟩
  rw [ha, hb]
  have hmod : ∀ u : Nat, u < 2 * m → u % m = if u < m then u else u - m := fun u hu => by
    by_cases h : u < m
    · rw [if_pos h, Nat.mod_eq_of_lt h]
    · rw [if_neg h, Nat.mod_eq_sub_mod (by omega), Nat.mod_eq_of_lt (by omega)]
  rw [hm] at ha hb
  rw [hmod _ (by omega)] at ha
  rw [hmod _ (by omega)] at hb
  have ham : a < m ∧ a ≠ r ∧ b < m ∧ b ≠ r ∧ a ≠ b := by split at ha <;> split at hb <;> omega
  have HA : ∀ t, t < m → t ≠ r → hmB n r t = odB ((t + m - r) % m) := fun t ht hne => by
    have e1 : Nat.beq (t + 1) n = false := beqF (by omega)
    have e2 : Nat.beq t r = false := beqF hne
    rw [hmB, e1, cond_false, e2, cond_false, hm]
  have oa : (a + m - r) % m = i := by rw [hmod _ (by omega)]; split at ha <;> split <;> omega
  have ob : (b + m - r) % m = m - i := by rw [hmod _ (by omega)]; split at hb <;> split <;> omega
  have ha1 := HA a ham.1 ham.2.1
  have hb1 := HA b ham.2.2.1 ham.2.2.2.1
  rw [oa] at ha1
  rw [ob] at hb1
  by_cases hab : (b : Int) < (a : Int)
  · rw [show prL (a : Int) (b : Int) = [(b : Int), (a : Int)] from by rw [prL, if_pos hab], hmP]
    simp only [nth, List.getD_cons_zero, List.getD_cons_succ, Int.toNat_natCast]
    rw [hb1]
    by_cases h : i % 2 = 1
    · rw [if_pos (by simpa using h), if_neg]
      intro hh; have := odB_t.1 hh; omega
    · rw [if_neg (by simpa using h), if_pos (odB_t.2 (by omega))]
  · rw [show prL (a : Int) (b : Int) = [(a : Int), (b : Int)] from by rw [prL, if_neg hab], hmP]
    simp only [nth, List.getD_cons_zero, List.getD_cons_succ, Int.toNat_natCast]
    rw [ha1]
    by_cases h : i % 2 = 1
    · rw [if_pos (by simpa using h), if_pos (odB_t.2 h)]
    · rw [if_neg (by simpa using h), if_neg]
      intro hh; exact h (odB_t.1 hh)
end Go.Proofs.Ytgflhgkcmfjkgaa
end

section
/- Walk: the home teams of the circle method, of the program. -/
namespace Go.Proofs.Ytgflhgkcmfjkgaa
set_option linter.unusedSimpArgs false
set_option linter.unusedVariables false
open Go.RowKit
attribute [local go_sem ↓] Go.wp_at_zero Go.wp_at_succ

theorem HmI.first {n r k : Nat} {hs : List Int} {p : List Int} {z : Int} (hl : hs.length = (rrR n r).length) (hk : k < (rrR n r).length) (hz : z = hmP n r p) (hn : ∀ x, x ∈ rrP n r 1 → x = p) (hnd : ∀ k', k' < (rrR n r).length → xat (rrR n r) k' = p → k' = k) : HmI n r 1 (hs.set k z) := by
  refine ⟨by rw [List.length_set]; exact hl, fun k' hk' hm => ?_⟩
  have e := hn _ hm
  obtain rfl := hnd k' hk' e
  rw [nth_eq (by rw [List.length_set, hl]; exact hk'), List.getElem_set_self, e]; exact hz
theorem HmI.done {n r : Nat} {hs : List Int} (he : n % 2 = 0) (h : HmI n r (n / 2) hs) : hs = hmR n r := by
  refine List.ext_getElem (by rw [h.1, hmR, List.length_map]) fun k h1 h2 => ?_
  rw [h.1] at h1
  have hm : xat (rrR n r) k ∈ rrP n r (n / 2) := by
    have h3 : xat (rrR n r) k ∈ srtL (rrU n r) := xat_mem h1
    have h4 := (srtL_perm _).mem_iff.1 h3
    have e : rrP n r (n / 2) = rrU n r := by rw [rrP, rrU, evn_e he]
    rw [e]; exact h4
  have := h.2 k h1 hm
  rw [nth_eq (by rw [h.1]; exact h1)] at this
  rw [this]
  simp only [hmR, List.getElem_map]
  rw [xat_eq h1]
theorem hm_take {n r : Nat} (h : r < n - 1) : (hmH n).take (r + 1) = (hmH n).take r ++ [hmR n r] := by
  rw [take_xat (by rw [hmH_len]; exact h), xat_hmH h]
theorem perm_rot (a b c : Ent) (L : List Ent) : (a :: b :: c :: L).Perm (L ++ [b, c] ++ [a]) := ((List.perm_append_comm (l₁ := [b, c]) (l₂ := L)).cons a).trans (List.perm_append_singleton a (L ++ [b, c])).symm
/-- where a pair stands in its round -/
theorem rr_at {n r : Nat} (h2 : 2 ≤ n) (h32 : n ≤ 32) (he : n % 2 = 0) (hr : r < n - 1) {p : List Int} {i : Nat} (hi : i ≤ n / 2) (hi1 : 1 ≤ n / 2) (hp : p ∈ rrP n r i) : ∃ k, k < (rrR n r).length ∧ xat (rrR n r) k = p ∧ ∀ k', k' < (rrR n r).length → xat (rrR n r) k' = p → k' = k := by
  have hm : p ∈ rrR n r := by
    rw [rrR]
    refine (srtL_perm _).mem_iff.2 ?_
    rw [rrU, evn_e he]
    rw [rrP, evn_e he] at hp
    rcases List.mem_append.1 hp with h | h
    · exact List.mem_append_left _ h
    · obtain ⟨j, hj, e⟩ := List.mem_map.1 h
      exact List.mem_append_right _ (List.mem_map.2 ⟨j, List.mem_range.2 (by have := List.mem_range.1 hj; omega), e⟩)
  obtain ⟨k, hk, e⟩ := mem_xat hm
  refine ⟨k, hk, e, fun k' hk' e' => ?_⟩
  have hv := rr_vs h2 h32
  have hst := hv.st (rrR n r) (by rw [← x3_rr he hr]; exact x3at_mem (by rw [rrL_len' he]; exact hr))
  rcases Nat.lt_trichotomy k' k with h | h | h
  · have := st_lt' hst h hk
    rw [e, e', cmpI_self] at this; omega
  · exact h
  · have := st_lt' hst h hk'
    rw [e, e', cmpI_self] at this; omega
theorem HomeTeams_no (n : Int) (w : World) (h : ¬ (2 ≤ n ∧ n ≤ 32) ∨ n % 2 ≠ 0) : Calls Try.prog 16 #[.int .i64 n] w fun e w' => e = .returned (.tuple #[.slice none 0 0, .int .i64 2]) ∧ St w.heap.size w w' [] := by
  have KT := isTeams_c n w
  by_cases hin : 2 ≤ n ∧ n ≤ 32
  · rw [inB_true hin] at KT
    have h2 : n % 2 = 1 := by have := h.resolve_left (fun hh => hh hin); omega
    have q0 : n.tmod 2 = 1 := by rw [Int.tmod_eq_emod_of_nonneg (by omega)]; exact h2
    go_enter Try.func16, Try.ntmps16
    go_wp2_with (go_at_call 32; refine KT.mono ?_; rintro e w2 ⟨rfl, hw2⟩; subst hw2)
    go_ret2
    exact ⟨rfl, St.refl _⟩
  · rw [inB_false hin] at KT
    go_enter Try.func16, Try.ntmps16
    go_wp2_with (go_at_call 32; refine KT.mono ?_; rintro e w2 ⟨rfl, hw2⟩; subst hw2)
    go_ret2
    exact ⟨rfl, St.refl _⟩
set_option maxHeartbeats 16000000 in
set_option maxRecDepth 100000 in
theorem HomeTeams_c (n : Nat) (w : World) (h2 : 2 ≤ n) (h32 : n ≤ 32) (he : n % 2 = 0) : Calls Try.prog 16 #[.int .i64 n] w (MakesC2 w (hmH n) 0) := by
  have KT := isTeams_c n w
  rw [inB_true (by omega)] at KT
  have K1 := Lib.hid (RoundRobin_c n w h2 h32)
  have hRl : (rrL n).length = n - 1 := rrL_len' he
  have q0 : (n : Int).tmod 2 = 0 := by rw [Int.tmod_eq_emod_of_nonneg (by omega)]; omega
  have q1 : (n : Int) % 2 = 0 := by omega
  have HX := fun r (hr : r < n - 1) => Lib.hid (x3_rr he hr)
  have HL := fun r => Lib.hid (rrR_len (r := r) h2)
  have HT := fun r (hr : r < n - 1) => Lib.hid (hm_take hr)
  have HA := fun r (hr : r < n - 1) i (hi : i ≤ n / 2) p hp => Lib.hid (rr_at h2 h32 he hr (p := p) hi (by omega) hp)
  have HS := fun r (hr : r < n - 1) => Lib.hid (fun i j (hij : i < j) (hj : j < (rrR n r).length) => st_lt' ((rr_vs h2 h32).st (rrR n r) (by rw [← x3_rr he hr]; exact x3at_mem (by rw [rrL_len' he]; exact hr))) hij hj)
  have HF := fun r (hr : r < n - 1) => Lib.hid (hm_first he h2 hr)
  have HP := fun r i (hr : r < n - 1) (hi : 1 ≤ i) (hi2 : i < n / 2) => Lib.hid (hm_pairs he h2 hr hi hi2)
  have HD := fun r hs h => Lib.hid (HmI.done (r := r) (hs := hs) he h)
  have HR1 := fun r => Lib.hid (rrP_one n r)
  have HRs := fun r i (h : 1 ≤ i) => Lib.hid (rrP_succ (n := n) (r := r) h)
  rw [evn_e he] at HRs
  simp only [if_pos he] at HR1
  have HH0 : Hid ((hmH n).take 0 = []) := Lib.hid rfl
  have hHl : Hid ((hmH n).length = n - 1) := Lib.hid hmH_len
  have hcf : ∀ (args : Array Value) (W : World), (callFunc 49 args).run Try.prog W = .ok (.enter 49 args) W :=
    fun args W => callFunc_go (P := Try.prog) Try.func49 (by kernel_rfl) (by kernel_rfl) args W
  obtain ⟨m, hm⟩ : ∃ m, n - 1 = m := ⟨_, rfl⟩
  have q2 : (n : Int) - 1 = (m : Int) := by omega
  obtain ⟨h, hh⟩ : ∃ h, n / 2 = h := ⟨_, rfl⟩
  have q3 : (n : Int).tdiv 2 = (h : Int) := by rw [Int.tdiv_eq_ediv_of_nonneg (by omega)]; omega
  have q4 : (n : Int) / 2 = (h : Int) := by omega
  have hb : 1 ≤ m ∧ m ≤ 31 ∧ 1 ≤ h ∧ h ≤ 16 ∧ h ≤ m := by omega
  have hlt2 : ∀ i : Nat, i < h → 1 ≤ i → m ≠ 1 := by omega
  simp only [hm, hh] at HX HL HT HA HS HF HP HD HR1 HRs hHl hRl
  have Hm := Lib.hid hm
  have Hh := Lib.hid hh
  clear hm hh
  go_enter Try.func16, Try.ntmps16
  go_wp2_with (go_at_call 32; refine KT.mono ?_; rintro e w2 ⟨rfl, hw2⟩; subst hw2)
  refine K1.out.mono ?_
  clear K1 KT
  rintro e w1 ⟨v, vs, uss, rfl, hf, h1⟩
  have rv := MkIII.riii hf h1
  have hln := rv.len
  have hle := rv.le
  have hix := rv.ixe
  rw [hRl] at hln hle hix
  have hS0 := (St.refl w1).newnil 30
  simp only [List.nil_append] at hS0
  clear q0 q1
  go_wp2_with fail
  go_loopw [28, 6, 7, 8, 9, 10, 11, 12] (fun i o _ _ _ _ _ _ wr => ∃ (r : Nat) (v6 : Value) (uh : List Value), v6 = o ∧ r ≤ m ∧ i = .int .i64 r ∧ Hid (uh.length = ((hmH n).take r).length) ∧ St w1.heap.size w1 wr (own2 v6 uh ((hmH n).take r))) (fun i _ _ _ _ _ _ _ _ => m - (intOf i).toNat)
  case atStart => exact ⟨0, _, [], rfl, by omega, rfl, rfl, hS0⟩
  case round =>
    clear hS0
    obtain ⟨r, v6, uh, rfl, hr, rfl, hlu, hS⟩ := hrel
    by_cases hlt : r < m
    · have HX := HX r hlt
      have HT := HT r hlt
      have HA := HA r hlt
      have HS := HS r hlt
      have HF := HF r hlt
      have HP := fun i => HP r i hlt
      have HR1 := HR1 r
      have HRs := HRs r
      have HL := HL r
      have HD := HD r
      have hc := (hS.oldIII rv).cell r (by rw [hRl]; exact hlt)
      have hx := hix (r : Int) r rfl hlt
      have rq := rv.row r (by rw [hRl]; exact hlt)
      rw [HX.out] at rq
      have hlq := rq.len
      rw [HL.out] at hlq
      obtain ⟨qa, qc, hvq⟩ := rq.1.sl.sh
      rw [rq.2.1, HL.out] at hvq
      rw [hvq] at hc rq hlq
      have hB := hS.newboxF 33 #[.slice qa h qc]
      have k0 := hB.bcell 0 rfl 0 rfl
      obtain ⟨fs, hfs⟩ : ∃ fs, decide (r % 2 = 0) = fs := ⟨_, rfl⟩
      have f1 : ((r : Int) % 2 == 0) = fs := by
        rw [← hfs]
        by_cases e : r % 2 = 0
        · rw [decide_eq_true e]; exact eq_t (by omega)
        · rw [decide_eq_false e]; exact eq_f (by omega)
      rw [hfs] at HF
      clear hfs
      obtain ⟨kk, hk, hpk, hnd⟩ := (HA 1 (by omega) (prL (m : Int) (r : Int)) (by rw [HR1.out]; simp)).out
      have Hnd := Lib.hid hnd
      have Hpk := Lib.hid hpk
      have Hk := Lib.hid hk
      clear hk hpk hnd
      go_wp2_with (refine mkI hB rfl _ _ rfl .i64 .i64 h rfl rfl (by omega) ?_; intro vh w2 hS2; obtain ⟨ha, hc2, hvh⟩ := (hS2.rdI _ (by rw [List.getElem?_append_right (Nat.le_refl _)]; simp; rfl)).sl.sh; rw [iv_len, List.length_replicate] at hvh; subst hvh)
      have hS3 := (hS2.newboxF 30 #[.slice ha h hc2]).perm (L' := row 2 (.slice ha h hc2) (iv (List.replicate h 0)) :: box 30 w2.heap.size [.slice ha h hc2] :: box 33 wr.heap.size [.slice qa h qc] :: own2 v6 uh ((hmH n).take r)) (List.perm_append_singleton _ (_ :: _ :: _))
      clear hS2 hB k0 hc hx
      have KP := fun (a b : Int) k (fst : Bool) hs W (hS : St w1.heap.size w1 W (row 2 (.slice ha h hc2) (iv hs) :: box 30 w2.heap.size [.slice ha h hc2] :: box 33 wr.heap.size [.slice qa h qc] :: own2 v6 uh ((hmH n).take r))) hk hpk hl => Lib.hid (place_c a b k fst wr.heap.size w2.heap.size 2 1 0 (.slice qa h qc) (.slice ha h hc2) (vsat uss r) (rrR n r) hs w1 W _ hS rfl rfl rfl (by omega) rq hk hpk (by rw [HL.out]; omega) HS.out hl)
      simp only [List.set_cons_zero] at KP
      refine (KP r m kk fs (List.replicate h 0) _ hS3 Hk.out (by rw [Hpk.out, prL_comm]) (by rw [HL.out]; simp)).out.mono ?_
      rintro e w3 ⟨rfl, hS4⟩
      have hI1 := Lib.hid (HmI.first (n := n) (r := r) (hs := List.replicate h 0) (z := if fs = true then (r : Int) else (m : Int)) (by rw [HL.out]; simp) Hk.out (by rw [HF.out, prL_comm]) (fun x hx => by rw [HR1.out] at hx; exact List.mem_singleton.1 hx) Hnd.out)
      generalize (List.replicate h (0 : Int)).set kk (if fs = true then (r : Int) else (m : Int)) = hs1 at *
      clear hS3 f1 Hnd Hpk Hk HF
      go_wp2_with fail
      go_loopw [12] (fun ii wx => ∃ (i : Nat) (hs : List Int), 1 ≤ i ∧ i ≤ h ∧ ii = .int .i64 i ∧ Hid (HmI n r i hs) ∧ St w1.heap.size w1 wx (row 2 (.slice ha h hc2) (iv hs) :: box 30 w2.heap.size [.slice ha h hc2] :: box 33 wr.heap.size [.slice qa h qc] :: own2 v6 uh ((hmH n).take r))) (fun ii _ => h - (intOf ii).toNat)
      case atStart => exact ⟨1, hs1, by omega, by omega, rfl, hI1.out, hS4⟩
      case round =>
        clear hS4 hI1
        obtain ⟨i, hs, hi1, hi2, rfl, hI, hS⟩ := hrel
        by_cases hit : i < h
        · have HRs := HRs i hi1
          have HP := HP i hi1 hit
          have hm1 := hlt2 i hit hi1
          obtain ⟨kk, hk, hpk, hnd⟩ := (HA (i + 1) (by omega) (prL (((r + i) % m : Nat) : Int) (((r + m - i) % m : Nat) : Int)) (by rw [HRs.out]; simp)).out
          have hst := Lib.hid (hI.out.step (j := i + 1) hk hpk HP.out (fun x hx => by
            rw [HRs.out] at hx
            rcases List.mem_append.1 hx with h | h
            · exact .inl h
            · exact .inr (List.mem_singleton.1 h)) hnd)
          have Hpk := Lib.hid hpk
          have Hk := Lib.hid hk
          have hll := Lib.hid hI.out.1
          clear hk hpk hnd HRs HP
          obtain ⟨fs, hfs⟩ : ∃ fs, decide (i % 2 = 1) = fs := ⟨_, rfl⟩
          have f1 : ((i : Int) % 2 == 1) = fs := by
            rw [← hfs]
            by_cases e : i % 2 = 1
            · rw [decide_eq_true e]; exact eq_t (by omega)
            · rw [decide_eq_false e]; exact eq_f (by omega)
          have f2 : ((i : Int).tmod 2 == 1) = fs := by rw [Int.tmod_eq_emod_of_nonneg (by omega)]; exact f1
          rw [hfs] at hst
          clear hfs
          have qa' : ((r : Int) + (i : Int)).tmod (m : Int) = (((r + i) % m : Nat) : Int) := by rw [Int.tmod_eq_emod_of_nonneg (by omega)]; rfl
          have qb : ((r : Int) - (i : Int) + (n : Int) - 1).tmod (m : Int) = (((r + m - i) % m : Nat) : Int) := by
            rw [show (r : Int) - (i : Int) + (n : Int) - 1 = ((r + m - i : Nat) : Int) by omega, Int.tmod_eq_emod_of_nonneg (by omega)]; rfl
          have qm : ((m : Int) == 0) = false := eq_f (by omega)
          have qn : ¬ (m : Int) = 0 := by omega
          have qo : ¬ m = 0 := by omega
          have xa := Nat.mod_lt (r + i) (show 0 < m by omega)
          have xb := Nat.mod_lt (r + m - i) (show 0 < m by omega)
          have w1' : IntKind.i64.wrap ((r : Int) + (i : Int)) = (r : Int) + (i : Int) := IntWalk.i64_in _ (by omega)
          have w2' : IntKind.i64.wrap (m : Int) = (m : Int) := IntWalk.i64_in _ (by omega)
          have w3' : IntKind.i64.wrap ((r : Int) - (i : Int)) = (r : Int) - (i : Int) := IntWalk.i64_in _ (by omega)
          have w4' : IntKind.i64.wrap ((r : Int) - (i : Int) + (n : Int)) = (r : Int) - (i : Int) + (n : Int) := IntWalk.i64_in _ (by omega)
          have w5' : IntKind.i64.wrap ((r : Int) - (i : Int) + (n : Int) - 1) = (r : Int) - (i : Int) + (n : Int) - 1 := IntWalk.i64_in _ (by omega)
          generalize (r + i) % m = ra at *
          generalize (r + m - i) % m = rb at *
          have wa : IntKind.i64.wrap (ra : Int) = (ra : Int) := IntWalk.i64_in _ (by omega)
          have wb : IntKind.i64.wrap (rb : Int) = (rb : Int) := IntWalk.i64_in _ (by omega)
          have wi : IntKind.i64.wrap ((i : Int) % 2) = (i : Int) % 2 := IntWalk.i64_in _ (by omega)
          have KC := Lib.hid (KP ra rb kk fs hs _ hS.drew Hk.out Hpk.out hll.out)
          go_wp2_with fail
          go_region_law (first
            | (go_simp; go_at_call 49; refine KC.out.out.mono ?_; rintro e2 w5 ⟨rfl, hS5⟩))
          all_goals
            go_wp2_with fail
            go_roundw
            case rel => exact ⟨i + 1, _, by omega, by omega, by go_num, hst, hS5⟩
            case measure => simp [intOf]; omega
        · obtain rfl : i = h := by omega
          have hD := HD _ hI.out
          rw [hD.out] at hS
          have g0 := hS.bcell 1 rfl 0 rfl
          have hN := Lib.hid (show uh.length < 4294967296 by rw [hlu.out, List.length_take, hHl.out]; omega)
          have hS7 := hS.perm (perm_rot _ _ _ _)
          go_wp2_with (at_builtin; refine appII hS7 0 rfl hN.out rfl _ _ rfl rfl _ rfl rfl ?_; intro v5 w5 hS5)
          have hS8 := (own2_snocL hlu.out hS5).sub (List.sublist_append_left _ _)
          rw [← HT.out] at hS8
          have hu3 : Hid ((uh ++ [Value.slice ha i hc2]).length = ((hmH n).take (r + 1)).length) := Lib.hid (by rw [HT.out]; simp [hlu.out])
          go_roundw
          case rel => exact ⟨r + 1, _, _, rfl, by omega, by go_num, hu3, hS8⟩
          case measure => simp [intOf]; omega
    · obtain rfl : r = m := by omega
      rw [show (hmH n).take r = hmH n by rw [← hHl.out, List.take_length]] at hS hlu
      go_wp2_with fail
      go_ret2
      exact ⟨_, uh, rfl, hlu.out, (h1.out).trans hS⟩
end Go.Proofs.Ytgflhgkcmfjkgaa
end

section
/- Walks: the reference's sorting of blocks. -/
namespace Go.Proofs.Ytgflhgkcmfjkgaa
set_option linter.unusedSimpArgs false
set_option linter.unusedVariables false
open Go.RowKit
attribute [local go_sem ↓] Go.wp_at_zero Go.wp_at_succ

section
variable {a : Act} {w : World} {Q : Exit → Act → World → Prop} {ops : Array Oper} {rest : List Oper} {o : Oper} {B : Nat} {w0 : World} {L : List Ent}
/-- append of the slices of a slice to an owned row of slices -/
theorem appsII2 (hS : St B w0 w L) (i : Nat) {v : Value} {us : List Value} (hi : L[i]? = some (row 30 v us)) (vx : Value) (ws : List Value) (hr : Rd w vx ws) (h1 : ∀ u ∈ ws, u.oneCell' = true) (hN : us.length + ws.length ≤ 4294967296) (hg : o.guard = none) (s x : Operand)
    (hop : o.op = .call { callee := .builtin .append, args := #[s, x], argTypes := #[33, 33] }) (hs : a.eval s = v) (hx : a.eval x = vx)
    (hK : ∀ v' w', St B w0 w' (L.set i (row 30 v' (us ++ ws))) → wpList Try.prog ops Q rest (a.put o.dst v') w') :
    wpList Try.prog ops Q (o :: rest) a w :=
  wpList_st_apps hg s x 33 hop 30 (.slice none 0 0) 24 Try.und_iss Try.info_is rfl hS i hi hs vx hx ws hr h1 (by omega) hN hK
end
theorem rslII_lo2 {w : World} {v : Value} {us : List Value} (h : Rd w v us) (lo : Nat) (h2 : lo ≤ us.length) (W : World) :
    (Instr.slice 33 v (some (.int .i64 (lo : Int))) none none).run Try.prog W = .ok (rsl v lo us.length) W := by
  obtain ⟨⟨a, cap, rfl, hc1, hc2, ha⟩, hcell⟩ := h
  rw [run_slice_l W 33 a _ cap und_elem_iis .i64 lo (by omega) (by omega), run_size_elemII]
  rfl
theorem ins_srt {A S : List (List Int)} {k m : Nat} (hk : k < A.length) (hm : m ≤ S.length) (hS : S = srtL (A.take k) ∧ (∀ j, j < m → leL (xat S j) (xat A k) = true)) (h2 : ∀ j, m ≤ j → j < S.length → leL (xat A k) (xat S j) = true) :
    S.take m ++ [xat A k] ++ S.drop m = srtL (A.take (k + 1)) := by
  obtain ⟨hS, h1⟩ := hS
  refine srtL_eq ?_ ?_
  · have p1 : (S.take m ++ [xat A k] ++ S.drop m).Perm (xat A k :: S) := by
      have : (S.take m ++ [xat A k] ++ S.drop m).Perm (xat A k :: (S.take m ++ S.drop m)) := by
        rw [List.append_assoc]; exact List.perm_middle
      rwa [List.take_append_drop] at this
    refine p1.trans ?_
    rw [take_xat hk, hS]
    exact ((srtL_perm _).cons _).trans (List.perm_append_comm (l₁ := [xat A k]))
  · have hpw : S.Pairwise fun a b => leL a b = true := by rw [hS]; exact srtL_pw _
    have hcut : (S.take m ++ S.drop m).Pairwise fun a b => leL a b = true := by rw [List.take_append_drop]; exact hpw
    obtain ⟨c1, c2, c3⟩ := List.pairwise_append.1 hcut
    have m1 : ∀ x ∈ S.take m, leL x (xat A k) = true := fun x hx => by
      obtain ⟨j, hj, rfl⟩ := List.getElem_of_mem hx
      have hjm : j < m := by simp at hj; omega
      rw [List.getElem_take, ← xat_eq]; exact h1 j hjm
    have m2 : ∀ x ∈ S.drop m, leL (xat A k) x = true := fun x hx => by
      obtain ⟨j, hj, rfl⟩ := List.getElem_of_mem hx
      have hjm : m + j < S.length := by simp at hj; omega
      rw [List.getElem_drop, ← xat_eq hjm]; exact h2 (m + j) (by omega) hjm
    rw [List.append_assoc]
    refine List.pairwise_append.2 ⟨c1, List.pairwise_cons.2 ⟨m2, c2⟩, fun x hx y hy => ?_⟩
    rcases List.mem_append.1 hy with hy | hy
    · obtain rfl := List.mem_singleton.1 hy; exact m1 x hx
    · exact c3 x hx y hy
theorem rows_ins {us : List Value} {S : List (List Int)} (hl : us.length = S.length) {m : Nat} (hm : m ≤ S.length) (u : Value) (b : List Int) :
    (rowsI us S ++ [row 2 u (iv b)]).Perm (rowsI (us.take m ++ [u] ++ us.drop m) (S.take m ++ [b] ++ S.drop m)) := by
  have e1 : rowsI us S = rowsI (us.take m) (S.take m) ++ rowsI (us.drop m) (S.drop m) := by
    unfold rowsI
    rw [← List.zipWith_append (by simp [hl]), List.take_append_drop, List.take_append_drop]
  have e2 : rowsI (us.take m ++ [u] ++ us.drop m) (S.take m ++ [b] ++ S.drop m) = rowsI (us.take m) (S.take m) ++ [row 2 u (iv b)] ++ rowsI (us.drop m) (S.drop m) := by
    unfold rowsI
    rw [List.zipWith_append (by simp [hl]), List.zipWith_append (by simp [hl])]; rfl
  rw [e1, e2, List.append_assoc, List.append_assoc]
  exact (List.perm_append_comm).append_left _
set_option maxHeartbeats 8000000 in
set_option maxRecDepth 100000 in
theorem l10Sort_c (v : Value) (us : List Value) (A : List (List Int)) (w : World) (hv : RII w v us A) (hN : A.length ≤ 1000) (hNr : ∀ xs ∈ A, xs.length ≤ 1048576) :
    Calls Try.prog 86 #[v] w (MakesII w (srtL A)) := by
  have hln := hv.len
  have hixe := hv.ixe
  have hNr := Lib.hid hNr
  have hS1 := St.emp0II (w := w)
  go_enter Try.func86, Try.ntmps86
  go_wp2_with fail
  go_loopw [3, 4, 5, 6] (fun o i _ _ wr => ∃ (k : Nat) (uo : List Value), k ≤ A.length ∧ i = .int .i64 k ∧ Hid (uo.length = (srtL (A.take k)).length) ∧ St w.heap.size w wr (own2 o uo (srtL (A.take k)))) (fun _ i _ _ _ => A.length - (intOf i).toNat)
  case atStart => exact ⟨0, [], by omega, rfl, rfl, hS1⟩
  case round =>
    clear hS1
    obtain ⟨k, uo, hk, rfl, hlo, hS⟩ := hrel
    have hlS : (srtL (A.take k)).length = k := by rw [srtL_len, List.length_take]; omega
    by_cases hlt : k < A.length
    · have hA0 := Lib.hid (show srtL (A.take k) = srtL (A.take k) from rfl)
      have HS0 : ∃ S, S = srtL (A.take k) := ⟨_, rfl⟩
      obtain ⟨S, hSe⟩ := HS0
      rw [← hSe] at hS hlo hlS
      have Hpw := Lib.hid (show S.Pairwise fun a b => leL a b = true by rw [hSe]; exact srtL_pw _)
      have HSe := Lib.hid hSe
      clear hSe hA0
      have hR0 := rii2 (L2 := []) (by rw [List.append_nil]; exact hS) hlo.out
      have hxo := hR0.ixe
      have hlno := hR0.len
      have xk := hixe (k : Int) k rfl hlt
      clear hR0
      go_wp2_with fail
      go_loopw [5] (fun q wr => ∃ m : Nat, m ≤ S.length ∧ q = .int .i64 m ∧ Hid (∀ j, m ≤ j → j < S.length → leL (xat A k) (xat S j) = true) ∧ St w.heap.size w wr (own2 u3 uo S)) (fun q _ => (intOf q).toNat)
      case atStart => exact ⟨S.length, by omega, by rw [hlS], fun j h1 h2 => by omega, hS⟩
      case round =>
        clear hS
        obtain ⟨m, hm, rfl, hI, hS⟩ := hrel
        by_cases hm0 : 0 < m
        · obtain ⟨p, hp⟩ : ∃ p, p + 1 = m := ⟨m - 1, by omega⟩
          have hpl : p < S.length := by omega
          have Rp := Lib.hid fun s : SS w.heap.size w (own2 u3 uo S) => (rii2 (L2 := []) (by rw [List.append_nil]; exact s.st) hlo.out).row p hpl
          have Rk := Lib.hid fun s : SS w.heap.size w (own2 u3 uo S) => (s.st.oldII hv).row k hlt
          have qp := fun s : SS w.heap.size w (own2 u3 uo S) => (rii2 (L2 := []) (by rw [List.append_nil]; exact s.st) hlo.out).cell p hpl
          have qk := fun s : SS w.heap.size w (own2 u3 uo S) => (s.st.oldII hv).cell k hlt
          have xp := hxo ((m : Int) - 1) p (by omega) hpl
          have hw : IntKind.i64.wrap ((m : Int) - 1) = (m : Int) - 1 := IntWalk.i64_in _ (by omega)
          have Hp := Lib.hid hp
          clear hp
          cases hc : leL (xat S p) (xat A k)
          · have hgt : 0 < cmpI (xat S p) (xat A k) := by have := of_decide_eq_false hc; omega
            have Hle := Lib.hid (show leL (xat A k) (xat S p) = true from by
              have := cmpI_neg (xat S p) (xat A k)
              exact decide_eq_true (by omega))
            clear hc
            go_wp2_with fail
            have hne : Nonempty (SS _ _ _) := ⟨⟨_, hS⟩⟩
            refine wp_region_st (by kernel_rfl) (by kernel_rfl) hS ?_
            repeat (go_big_quiet_step ((go_at_call 95; exact st_quiet (sCompareLists_c _ _ _ _ _ (Rp.out _) (Rk.out _)))))
            refine wpQuiet_nil ?_
            rintro _ ⟨s2, rfl⟩
            have hS2 := s2.st
            generalize s2.w = w2 at hS2 ⊢
            go_wp2_with fail
            go_roundw
            case rel => exact ⟨p, by omega, by rw [← Hp.out]; go_num, fun j h1 h2 => by
              by_cases e : j = p
              · rw [e]; exact Hle.out
              · exact hI.out j (by have := Hp.out; omega) h2, hS2⟩
            case measure => have := Hp.out; simp [intOf]; omega
          · have hgt : ¬ 0 < cmpI (xat S p) (xat A k) := by have := of_decide_eq_true hc; omega
            have hA1 : S = srtL (A.take k) ∧ (∀ j, j < m → leL (xat S j) (xat A k) = true) := ⟨HSe.out, fun j hj => by
              by_cases e : j = p
              · rw [e]; exact hc
              · have h3 := List.pairwise_iff_getElem.1 Hpw.out j p (by omega) hpl (by have := Hp.out; omega)
                rw [← xat_eq, ← xat_eq] at h3
                exact leL_trans _ _ _ h3 hc⟩
            have HA1 := Lib.hid hA1
            clear hA1 hc
            go_wp2_with fail
            have hne : Nonempty (SS _ _ _) := ⟨⟨_, hS⟩⟩
            refine wp_region_st (by kernel_rfl) (by kernel_rfl) hS ?_
            repeat (go_big_quiet_step ((go_at_call 95; exact st_quiet (sCompareLists_c _ _ _ _ _ (Rp.out _) (Rk.out _)))))
            refine wpQuiet_nil ?_
            rintro _ ⟨s2, rfl⟩
            have hS2 := s2.st
            generalize s2.w = w2 at hS2 ⊢
            clear hS qp qk Rp Rk
            have hone := Lib.hid (fun u (hu : u ∈ uo) => (show u.oneCell' = true by
              obtain ⟨j, hj, rfl⟩ := List.getElem_of_mem hu
              rw [← vat_eq hj]
              exact ((rii2 (L2 := []) (by rw [List.append_nil]; exact hS2) hlo.out).row j (by rw [← hlo.out]; exact hj)).sl.one))
            have hrd := hS2.rd 0 (e := 30) (v := u3) (us := uo) rfl
            have hsl := rslII_hi hrd m (by rw [hlo.out]; omega)
            have hsl2 := rslII_lo2 hrd m (by rw [hlo.out]; omega)
            rw [hlo.out] at hsl2
            have hrk := Lib.hid ((hS2.oldII hv).row k hlt)
            have hk1 := (hS2.oldII hv).cell k hlt
            have hS3 := (hS2.new 30 #[] (by simp)).perm List.perm_append_comm
            simp only [List.cons_append, List.nil_append] at hS3
            have Hrd := Lib.hid (hS3.rd 1 (e := 30) (v := u3) (us := uo) rfl)
            clear hrd
            go_wp2_with (at_builtin; refine appsII2 hS3 0 rfl _ _ (rsl_Rd Hrd.out (Nat.zero_le m) (by rw [hlo.out]; omega)) (fun u hu => hone.out u (List.mem_of_mem_take (List.mem_of_mem_drop hu))) (by simp [hlo.out]; omega) rfl _ _ rfl rfl rfl ?_; intro v4 w4 hS4; have hk4 := (hS4.oldII hv).cell k hlt)
            have hrk4 := (hS4.oldII hv).row k hlt
            refine (l00Own_c _ _ _ hrk4 (hNr.out _ (xat_mem hlt))).mono ?_
            rintro e w5 ⟨u5, rfl, h5⟩
            obtain ⟨ua, uc, hle⟩ := (h5.rdI 0 rfl).sl.sh
            rw [iv_len] at hle
            subst hle
            have hS5 := hS4.call h5
            simp only [List.set_cons_zero, List.cons_append, List.nil_append, List.drop_zero] at hS5
            have hl5 := Lib.hid (show (uo.take m).length = m by rw [List.length_take, hlo.out]; omega)
            clear hS3 hS4 h5 hrk4 hk4
            have hN5 : (uo.take m).length < 4294967296 := (by rw [hl5.out]; omega)
            have hN5 := Lib.hid hN5
            go_wp2_with (first | (at_builtin; refine appsII2 hS6 0 rfl _ _ hrd6.out hone6.out hN6.out rfl _ _ rfl rfl rfl ?_; intro v7 w7 hS7) | (at_builtin; refine appII hS5 0 rfl hN5.out rfl _ _ rfl rfl _ rfl rfl ?_; intro v6 w6 hS6; simp only [List.set_cons_zero] at hS6; have hrd6 := Lib.hid (rsl_Rd (hS6.rd 1 (e := 30) (v := u3) (us := uo) rfl) (lo := m) (hi := k) (by omega) (by rw [hlo.out]; omega)); have hone6 := Lib.hid (fun u (hu : u ∈ (uo.take k).drop m) => hone.out u (List.mem_of_mem_take (List.mem_of_mem_drop hu))); have hN6 := Lib.hid (show (uo.take m ++ [Value.slice ua (xat A k).length uc]).length + ((uo.take k).drop m).length ≤ 4294967296 by simp only [List.length_append, List.length_drop, List.length_take, List.length_singleton, hlo.out]; omega)))
            simp only [List.set_cons_zero] at hS7
            go_roundw
            case rel =>
              refine ⟨k + 1, uo.take m ++ [.slice ua (xat A k).length uc] ++ uo.drop m, by omega, by go_num, by rw [Hid, srtL_len, List.length_take]; simp [hlo.out]; omega, ?_⟩
              have he := ins_srt hlt hm HA1.out hI.out
              rw [← he]
              rw [show (uo.take k).drop m = uo.drop m by rw [← hlS, ← hlo.out, List.take_length]] at hS7
              have hp := hS7.sub (L' := row 30 v7 (uo.take m ++ [.slice ua (xat A k).length uc] ++ uo.drop m) :: (rowsI uo S ++ [row 2 (.slice ua (xat A k).length uc) (iv (xat A k))])) ((List.sublist_cons_self _ _).cons_cons _)
              refine hp.perm ?_
              unfold own2
              refine List.Perm.cons _ ?_
              exact rows_ins hlo.out hm _ _
            case measure => simp [intOf]; omega
        · have HA1 := Lib.hid (show S = srtL (A.take k) ∧ (∀ j, j < m → leL (xat S j) (xat A k) = true) from ⟨HSe.out, fun j hj => by omega⟩)
          go_wp2_with fail
          have hne : Nonempty (SS _ _ _) := ⟨⟨_, hS⟩⟩
          refine wp_region_st (by kernel_rfl) (by kernel_rfl) hS ?_
          repeat (go_big_quiet_step (fail))
          refine wpQuiet_nil ?_
          rintro _ ⟨s2, rfl⟩
          have hS2 := s2.st
          generalize s2.w = w2 at hS2 ⊢
          clear hS
          have hone := Lib.hid (fun u (hu : u ∈ uo) => (show u.oneCell' = true by
            obtain ⟨j, hj, rfl⟩ := List.getElem_of_mem hu
            rw [← vat_eq hj]
            exact ((rii2 (L2 := []) (by rw [List.append_nil]; exact hS2) hlo.out).row j (by rw [← hlo.out]; exact hj)).sl.one))
          have hrd := hS2.rd 0 (e := 30) (v := u3) (us := uo) rfl
          have hsl := rslII_hi hrd m (by rw [hlo.out]; omega)
          have hsl2 := rslII_lo2 hrd m (by rw [hlo.out]; omega)
          rw [hlo.out] at hsl2
          have hrk := Lib.hid ((hS2.oldII hv).row k hlt)
          have hk1 := (hS2.oldII hv).cell k hlt
          have hS3 := (hS2.new 30 #[] (by simp)).perm List.perm_append_comm
          simp only [List.cons_append, List.nil_append] at hS3
          have Hrd := Lib.hid (hS3.rd 1 (e := 30) (v := u3) (us := uo) rfl)
          clear hrd
          go_wp2_with (at_builtin; refine appsII2 hS3 0 rfl _ _ (rsl_Rd Hrd.out (Nat.zero_le m) (by rw [hlo.out]; omega)) (fun u hu => hone.out u (List.mem_of_mem_take (List.mem_of_mem_drop hu))) (by simp [hlo.out]; omega) rfl _ _ rfl rfl rfl ?_; intro v4 w4 hS4; have hk4 := (hS4.oldII hv).cell k hlt)
          have hrk4 := (hS4.oldII hv).row k hlt
          refine (l00Own_c _ _ _ hrk4 (hNr.out _ (xat_mem hlt))).mono ?_
          rintro e w5 ⟨u5, rfl, h5⟩
          obtain ⟨ua, uc, hle⟩ := (h5.rdI 0 rfl).sl.sh
          rw [iv_len] at hle
          subst hle
          have hS5 := hS4.call h5
          simp only [List.set_cons_zero, List.cons_append, List.nil_append, List.drop_zero] at hS5
          have hl5 := Lib.hid (show (uo.take m).length = m by rw [List.length_take, hlo.out]; omega)
          clear hS3 hS4 h5 hrk4 hk4
          have hN5 : (uo.take m).length < 4294967296 := (by rw [hl5.out]; omega)
          have hN5 := Lib.hid hN5
          go_wp2_with (first | (at_builtin; refine appsII2 hS6 0 rfl _ _ hrd6.out hone6.out hN6.out rfl _ _ rfl rfl rfl ?_; intro v7 w7 hS7) | (at_builtin; refine appII hS5 0 rfl hN5.out rfl _ _ rfl rfl _ rfl rfl ?_; intro v6 w6 hS6; simp only [List.set_cons_zero] at hS6; have hrd6 := Lib.hid (rsl_Rd (hS6.rd 1 (e := 30) (v := u3) (us := uo) rfl) (lo := m) (hi := k) (by omega) (by rw [hlo.out]; omega)); have hone6 := Lib.hid (fun u (hu : u ∈ (uo.take k).drop m) => hone.out u (List.mem_of_mem_take (List.mem_of_mem_drop hu))); have hN6 := Lib.hid (show (uo.take m ++ [Value.slice ua (xat A k).length uc]).length + ((uo.take k).drop m).length ≤ 4294967296 by simp only [List.length_append, List.length_drop, List.length_take, List.length_singleton, hlo.out]; omega)))
          simp only [List.set_cons_zero] at hS7
          go_roundw
          case rel =>
            refine ⟨k + 1, uo.take m ++ [.slice ua (xat A k).length uc] ++ uo.drop m, by omega, by go_num, by rw [Hid, srtL_len, List.length_take]; simp [hlo.out]; omega, ?_⟩
            have he := ins_srt hlt hm HA1.out hI.out
            rw [← he]
            rw [show (uo.take k).drop m = uo.drop m by rw [← hlS, ← hlo.out, List.take_length]] at hS7
            have hp := hS7.sub (L' := row 30 v7 (uo.take m ++ [.slice ua (xat A k).length uc] ++ uo.drop m) :: (rowsI uo S ++ [row 2 (.slice ua (xat A k).length uc) (iv (xat A k))])) ((List.sublist_cons_self _ _).cons_cons _)
            refine hp.perm ?_
            unfold own2
            refine List.Perm.cons _ ?_
            exact rows_ins hlo.out hm _ _
          case measure => simp [intOf]; omega
    · obtain rfl : k = A.length := by omega
      rw [List.take_length] at hS hlo
      go_wp2_with fail
      go_ret
      exact ⟨_, uo, rfl, hlo.out, hS⟩
end Go.Proofs.Ytgflhgkcmfjkgaa
end
