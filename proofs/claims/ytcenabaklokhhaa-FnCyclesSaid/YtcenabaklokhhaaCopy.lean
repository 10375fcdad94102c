/- Walks: copies of slices, reslices, Concat. -/
import Derived.Test.YtcenabaklokhhaaReg
import Derived.Lib.AppendZerosOnto
import Derived.Lib.SliceRun
namespace Go.Proofs.Ytcenabaklokhhaa
set_option linter.unusedSimpArgs false
set_option linter.unusedVariables false
open Go.RowKit

/-- v[lo:hi], the capacity kept -/
def rsl (v : Value) (lo hi : Nat) : Value :=
  match v with
  | .slice a _ c => sliced a lo hi c 1
  | _ => v
theorem Try.und_isss : Try.prog.underlying 44 = some (.slice 26) := by kernel_rfl
theorem Try.size_iss : (Try.prog.info? 26).map (·.size) = some 1 := by kernel_rfl
theorem und_elem_is : Try.prog.underlying 23 = some (.slice (Try.prog.elem 23)) := by kernel_rfl
theorem elem_is_size : (Try.prog.info? (Try.prog.elem 23)).map (·.size) = some 1 := by kernel_rfl
theorem run_size_elem (W : World) : (sizeOf (Try.prog.elem 23)).run Try.prog W = .ok 1 W := by
  obtain ⟨inf, hinf, hs⟩ := Option.map_eq_some_iff.1 elem_is_size
  simp [sizeOf, typeInfo, hinf, hs]

theorem rsl_Rd {w : World} {v : Value} {us : List Value} (h : Rd w v us) {lo hi : Nat} (h1 : lo ≤ hi) (h2 : hi ≤ us.length) : Rd w (rsl v lo hi) ((us.take hi).drop lo) := by
  obtain ⟨⟨a, cap, rfl, hc1, hc2, ha⟩, hcell⟩ := h
  have hlen : ((us.take hi).drop lo).length = hi - lo := by simp; omega
  refine ⟨⟨if cap = lo then a else a.map (·.add (lo * 1)), cap - lo, ?_, ?_, by omega, ?_⟩, ?_⟩
  · show sliced a lo hi cap 1 = _
    rw [hlen]; rfl
  · rw [hlen]; omega
  · rw [hlen]
    rcases ha with ha | ha
    · left; omega
    · right; split
      · exact ha
      · simpa using ha
  · intro i u hu
    have hi' : i < hi - lo := by have := (List.getElem?_eq_some_iff.1 hu).1; rw [hlen] at this; exact this
    have hu' : us[lo + i]? = some u := by
      simp only [List.getElem?_drop, List.getElem?_take, show lo + i < hi by omega, if_true] at hu ⊢
      exact hu
    have hc := hcell (lo + i) u hu'
    rcases ha with ha | ha
    · omega
    · obtain ⟨b, rfl⟩ := Option.ne_none_iff_exists'.1 ha
      have hne : cap ≠ lo := by omega
      simp only [rsl, sliced, hne, if_false, Option.map_some, el, Nat.mul_one]
      rw [Addr.add_add]
      simpa [el] using hc
section
variable {w : World} {v : Value} {xs : List Int}
theorem rsl_rd (h : RdI w v xs) {lo hi : Nat} (h1 : lo ≤ hi) (h2 : hi ≤ xs.length) : RdI w (rsl v lo hi) ((xs.take hi).drop lo) := by
  have := rsl_Rd h h1 (show hi ≤ (iv xs).length by rw [iv_len]; exact h2)
  simpa [RdI, iv] using this
theorem rsl_hi (h : RdI w v xs) (hi : Nat) (h2 : hi ≤ xs.length) (W : World) :
    (Instr.slice 23 v none (some (.int .i64 (hi : Int))) none).run Try.prog W = .ok (rsl v 0 hi) W := by
  obtain ⟨⟨a, cap, rfl, hc1, hc2, ha⟩, hcell⟩ := h
  rw [iv_len] at hc1
  rw [run_slice_h W 23 a _ cap und_elem_is .i64 hi (by omega) (by omega), run_size_elem]
  rfl
theorem rsl_lo (h : RdI w v xs) (lo : Nat) (h2 : lo ≤ xs.length) (W : World) :
    (Instr.slice 23 v (some (.int .i64 (lo : Int))) none none).run Try.prog W = .ok (rsl v lo xs.length) W := by
  obtain ⟨⟨a, cap, rfl, hc1, hc2, ha⟩, hcell⟩ := h
  rw [iv_len] at hc1
  rw [run_slice_l W 23 a _ cap und_elem_is .i64 lo (by omega) (by rw [iv_len]; omega), run_size_elem]
  rw [iv_len]
  rfl
end

theorem St.newnil {B : Nat} {w0 w : World} {L : List Ent} (h : St B w0 w L) (e : TypeId) : St B w0 w (L ++ [row e (.slice none 0 0) []]) :=
  h.add ⟨rfl, rfl, rfl, Nat.le_refl _, fun _ _ _ => rfl⟩ _ (.inr (.inl ⟨rfl, rfl, rfl⟩)) (fun k hk => by simp [bk, row] at hk)

/-- a new row with room and no element -/
theorem St.room {B : Nat} {w0 w : World} {L : List Ent} (h : St B w0 w L) (e : TypeId) (z : Value) (hz : z.cells.size = 1) (n : Nat) (hn : n ≤ 4294967296) :
    St B w0 (w.drew.alloc (.cells (Builtin.zeroCells z.cells n ++ Builtin.zeroCells z.cells (grownCap w n 0 e - n)) e)) (L ++ [row e (.slice (some ⟨w.heap.size, 0, none⟩) 0 (grownCap w n 0 e)) []]) := by
  have hge := grownCap_ge w n 0 e
  have hcm := grownCap_le_maxLen w n 0 e (by unfold maxLen; omega)
  refine (h.drew).add (World.grownBy_alloc w.drew _ none) _ (.inr (.inr ⟨rfl, w.heap.size, grownCap w n 0 e, _, rfl, h.base, heap_alloc_new w.drew _, by simp [row], hcm, ?_, by simp [row]⟩)) (fun k hk => by simp [bk, row] at hk; simp; omega)
  simp [size_zeroCells, hz]; omega

set_option maxRecDepth 100000 in
theorem l00Own_c (v : Value) (xs : List Int) (w : World) (hv : RdI w v xs) (hN : xs.length ≤ 1048576) :
    Calls Try.prog 234 #[v] w (MakesI w xs) := by
  have hS1 := (St.refl w).new 2 #[] (by simp)
  go_enter Try.func234, Try.ntmps234
  go_wp2_with (at_builtin; refine appsI hS1 0 (xs := []) rfl v xs (hS1.oldI hv) (by simp; omega) rfl _ _ rfl rfl rfl ?_; intro v2 w2 hS2)
  go_ret
  exact ⟨v2, rfl, hS2⟩

set_option maxRecDepth 100000 in
theorem Clone_c (v : Value) (xs : List Int) (w : World) (hv : RdI w v xs) (hN : xs.length ≤ 1048576) :
    Calls Try.prog 110 #[v] w (MakesI w xs) := by
  have hS1 := (St.refl w).new 2 #[] (by simp)
  obtain ⟨⟨a, cap, rfl, hc1, hc2, ha⟩, _⟩ := id hv
  cases a with
  | none =>
    have hx : Hid (xs = []) := by
      rcases ha with ha | ha
      · rw [iv_len] at ha; exact List.eq_nil_of_length_eq_zero ha
      · exact absurd rfl ha
    have hq : ∀ W : World, (binOp .eql 23 (.slice none (iv xs).length cap) (.slice none 0 0)).run Try.prog W = .ok (.bool true) W := fun W => Lib.run_eql_slice_nil W _ _ none _ _ _ _ Try.und_is
    go_enter Try.func110, Try.ntmps110
    go_wp2_with fail
    go_ret
    refine ⟨_, rfl, ?_⟩
    rw [hx.out]
    exact (St.refl w).newnil _
  | some b =>
    have hq : ∀ W : World, (binOp .eql 23 (.slice (some b) (iv xs).length cap) (.slice none 0 0)).run Try.prog W = .ok (.bool false) W := fun W => Lib.run_eql_slice_nil W _ _ (some b) _ _ _ _ Try.und_is
    go_enter Try.func110, Try.ntmps110
    go_wp2_with (at_builtin; refine appsI hS1 0 (xs := []) rfl _ xs (hS1.oldI hv) (by simp; omega) rfl _ _ rfl rfl rfl ?_; intro v2 w2 hS2)
    go_ret
    exact ⟨v2, rfl, hS2⟩

def totV : List (List Value) → Nat
  | [] => 0
  | x :: r => x.length + totV r
def vsat (uss : List (List Value)) (j : Nat) : List Value := uss.getD j []
theorem vsat_eq {uss : List (List Value)} {j : Nat} (h : j < uss.length) : vsat uss j = uss[j] := by simp [vsat, h]
theorem take_vsat {uss : List (List Value)} {k : Nat} (hk : k < uss.length) : uss.take (k + 1) = uss.take k ++ [vsat uss k] := by
  rw [List.take_succ_eq_append_getElem hk, vsat_eq hk]
theorem totV_app (a b : List (List Value)) : totV (a ++ b) = totV a + totV b := by
  induction a with
  | nil => simp [totV]
  | cons x r ih => simp only [List.cons_append, totV, ih]; omega
theorem totV_take_succ {uss : List (List Value)} {k : Nat} (hk : k < uss.length) : totV (uss.take (k + 1)) = totV (uss.take k) + (vsat uss k).length := by
  rw [take_vsat hk, totV_app]; simp [totV]
theorem totV_take_le (uss : List (List Value)) (k : Nat) : totV (uss.take k) ≤ totV uss := by
  have := totV_app (uss.take k) (uss.drop k)
  rw [List.take_append_drop] at this; omega
theorem totV_flat (uss : List (List Value)) : uss.flatten.length = totV uss := by
  induction uss with
  | nil => rfl
  | cons x r ih => simp [totV, ih]

/-- it hands over a row of cells -/
def MakesR (e : TypeId) (w : World) (us : List Value) (en : Ending) (w' : World) : Prop := ∃ v, en = .returned v ∧ St w.heap.size w w' [row e v us]

/-- a slice of slices of cells -/
def RVV (w : World) (v : Value) (vs : List Value) (uss : List (List Value)) : Prop :=
  Rd w v vs ∧ vs.length = uss.length ∧ ∀ j, j < uss.length → Rd w (vat vs j) (vsat uss j)
theorem RVV.keep {w w' : World} {v : Value} {vs : List Value} {uss : List (List Value)} (h : RVV w v vs uss) (hb : Below w.heap.size w w') : RVV w' v vs uss := ⟨h.1.keep hb, h.2.1, fun j hj => (h.2.2 j hj).keep hb⟩

set_option maxRecDepth 100000 in
theorem GrowI_c (n : Nat) (w : World) (hN : n ≤ 1048576) :
    Calls Try.prog 217 #[.slice none 0 0, .int .i64 n] w (MakesR 2 w []) := by
  by_cases h0 : 0 < n
  · obtain ⟨inf, hinf, hzz⟩ := Option.map_eq_some_iff.1 Try.info_i
    simp only [Prod.mk.injEq] at hzz
    obtain ⟨hz0, hz1, hz2⟩ := hzz
    have hS1 := (St.refl w).room 2 (.int .i64 0) rfl n (by omega)
    have hr := Lib.hid (Lib.run_append_nil_zeros (P := Try.prog) w 23 3 23 2 inf (.int .i64 0) .i64 .i64 Try.und_is (by kernel_rfl) hinf hz0 n h0 (by rw [hz1]; omega) (by omega) (by rw [hz2]; omega))
    clear hz0 hz1 hz2 hinf
    go_enter Try.func217, Try.ntmps217
    go_wp2_with (at_builtin; refine Lib.wpList_append_run _ rfl _ _ _ _ rfl _ _ rfl rfl _ _ hr.out ?_)
    go_ret
    exact ⟨_, rfl, hS1⟩
  · obtain rfl : n = 0 := by omega
    go_enter Try.func217, Try.ntmps217
    go_wp2_with fail
    go_ret
    exact ⟨_, rfl, (St.refl w).newnil _⟩
set_option maxHeartbeats 1000000 in
set_option maxRecDepth 100000 in
theorem ConcatI_c (v : Value) (vs : List Value) (uss : List (List Value)) (w : World) (hv : RVV w v vs uss) (h1 : ∀ us ∈ uss, ∀ u ∈ us, u.oneCell' = true) (hN : totV uss ≤ 1048576) :
    Calls Try.prog 140 #[v] w (MakesR 2 w uss.flatten) := by
  have hln := run_len_sl (P := Try.prog) hv.1.sl 26 3 Try.und_iss
  have hix := run_ix_sl (P := Try.prog) hv.1.sl 26 Try.und_iss Try.size_is
  have hm := hv.1.sl.le
  rw [hv.2.1] at hln hix hm
  have H1 := Lib.hid h1
  clear h1
  go_enter Try.func140, Try.ntmps140
  go_wp2_with fail
  go_loopw [3, 5, 11] (fun sz _ i wr => ∃ k : Nat, k ≤ uss.length ∧ i = .int .i64 k ∧ sz = .int .i64 (totV (uss.take k)) ∧ wr = w) (fun _ _ i _ => uss.length - (intOf i).toNat)
  case atStart => exact ⟨0, by omega, rfl, rfl, rfl⟩
  case round =>
    obtain ⟨k, hk, rfl, rfl, rfl⟩ := hrel
    by_cases hlt : k < uss.length
    · have hc := hv.1.cell (i := k) (by rw [hv.2.1]; exact hlt)
      have hr := Lib.hid (hv.2.2 k hlt)
      have hl1 := run_len_sl (P := Try.prog) hr.out.sl 23 3 Try.und_is
      have hs := Lib.hid (totV_take_succ hlt)
      have hb := totV_take_le uss (k + 1)
      have hb2 : totV (uss.take k) + (vsat uss k).length ≤ 1048576 := by have := hs.out; omega
      rw [show vs.getD k undef = vat vs k from rfl] at hc
      go_wp2_with fail
      go_roundw
      case rel => exact ⟨k + 1, by omega, by go_num, by rw [hs.out]; congr 1, by first | rfl | trivial⟩
      case measure => simp [intOf]; omega
    · obtain rfl : k = uss.length := by omega
      rw [List.take_length]
      have Hg := fun w => Lib.hid (GrowI_c (totV uss) w hN)
      go_wp2_with fail
      refine (Hg _).out.mono ?_
      rintro e w1 ⟨v1, rfl, hS1⟩
      go_wp2_with fail
      go_loopw [6, 8, 27] (fun nv _ i wx => ∃ k : Nat, k ≤ uss.length ∧ i = .int .i64 k ∧ St wr.heap.size wr wx [row 2 nv (uss.take k).flatten]) (fun _ _ i _ => uss.length - (intOf i).toNat)
      case atStart => exact ⟨0, by omega, rfl, hS1⟩
      case round =>
        obtain ⟨k, hk, rfl, hS⟩ := hrel
        by_cases hlt : k < uss.length
        · have hb0 := totV_take_le uss (k + 1)
          have hs := Lib.hid (totV_take_succ hlt)
          have hb2 : totV (uss.take k) + (vsat uss k).length ≤ 1048576 := by have := hs.out; omega
          have hv2 := hv.keep hS.below
          have hc := hv2.1.cell (i := k) (by rw [hv.2.1]; exact hlt)
          have hr := Lib.hid (hv2.2.2 k hlt)
          have H2 := Lib.hid (show ∀ u ∈ vsat uss k, u.oneCell' = true from fun u hu => H1.out (vsat uss k) (by rw [vsat_eq hlt]; exact List.getElem_mem hlt) u hu)
          have hN2 := Lib.hid (show (uss.take k).flatten.length + (vsat uss k).length ≤ 4294967296 by rw [totV_flat]; omega)
          have he := Lib.hid (show (uss.take k).flatten ++ vsat uss k = (uss.take (k + 1)).flatten by rw [take_vsat hlt]; simp)
          rw [show vs.getD k undef = vat vs k from rfl] at hc
          clear hv2
          go_wp2_with (at_builtin; refine wpList_st_apps rfl _ _ 23 rfl 2 (.int .i64 0) 8 Try.und_is Try.info_i rfl hS 0 rfl rfl _ rfl _ hr.out H2.out (by omega) hN2.out ?_; intro v2 w2 hS2)
          go_roundw
          case rel => exact ⟨k + 1, by omega, by go_num, by rw [he.out] at hS2; exact hS2⟩
          case measure => simp [intOf]; omega
        · obtain rfl : k = uss.length := by omega
          rw [List.take_length] at hS
          go_wp2_with fail
          go_ret
          exact ⟨_, rfl, hS⟩
set_option maxRecDepth 100000 in
theorem GrowII_c (n : Nat) (w : World) (hN : n ≤ 1048576) :
    Calls Try.prog 218 #[.slice none 0 0, .int .i64 n] w (MakesR 23 w []) := by
  by_cases h0 : 0 < n
  · obtain ⟨inf, hinf, hzz⟩ := Option.map_eq_some_iff.1 Try.info_is
    simp only [Prod.mk.injEq] at hzz
    obtain ⟨hz0, hz1, hz2⟩ := hzz
    have hS1 := (St.refl w).room 23 (.slice none 0 0) rfl n (by omega)
    have hr := Lib.hid (Lib.run_append_nil_zeros (P := Try.prog) w 26 3 26 23 inf (.slice none 0 0) .i64 .i64 Try.und_iss (by kernel_rfl) hinf hz0 n h0 (by rw [hz1]; omega) (by omega) (by rw [hz2]; omega))
    clear hz0 hz1 hz2 hinf
    go_enter Try.func218, Try.ntmps218
    go_wp2_with (at_builtin; refine Lib.wpList_append_run _ rfl _ _ _ _ rfl _ _ rfl rfl _ _ hr.out ?_)
    go_ret
    exact ⟨_, rfl, hS1⟩
  · obtain rfl : n = 0 := by omega
    go_enter Try.func218, Try.ntmps218
    go_wp2_with fail
    go_ret
    exact ⟨_, rfl, (St.refl w).newnil _⟩
set_option maxHeartbeats 1000000 in
set_option maxRecDepth 100000 in
theorem ConcatII_c (v : Value) (vs : List Value) (uss : List (List Value)) (w : World) (hv : RVV w v vs uss) (h1 : ∀ us ∈ uss, ∀ u ∈ us, u.oneCell' = true) (hN : totV uss ≤ 1048576) :
    Calls Try.prog 141 #[v] w (MakesR 23 w uss.flatten) := by
  have hln := run_len_sl (P := Try.prog) hv.1.sl 44 3 Try.und_isss
  have hix := run_ix_sl (P := Try.prog) hv.1.sl 44 Try.und_isss Try.size_iss
  have hm := hv.1.sl.le
  rw [hv.2.1] at hln hix hm
  have H1 := Lib.hid h1
  clear h1
  go_enter Try.func141, Try.ntmps141
  go_wp2_with fail
  go_loopw [3, 5, 11] (fun sz _ i wr => ∃ k : Nat, k ≤ uss.length ∧ i = .int .i64 k ∧ sz = .int .i64 (totV (uss.take k)) ∧ wr = w) (fun _ _ i _ => uss.length - (intOf i).toNat)
  case atStart => exact ⟨0, by omega, rfl, rfl, rfl⟩
  case round =>
    obtain ⟨k, hk, rfl, rfl, rfl⟩ := hrel
    by_cases hlt : k < uss.length
    · have hc := hv.1.cell (i := k) (by rw [hv.2.1]; exact hlt)
      have hr := Lib.hid (hv.2.2 k hlt)
      have hl1 := run_len_sl (P := Try.prog) hr.out.sl 26 3 Try.und_iss
      have hs := Lib.hid (totV_take_succ hlt)
      have hb := totV_take_le uss (k + 1)
      have hb2 : totV (uss.take k) + (vsat uss k).length ≤ 1048576 := by have := hs.out; omega
      rw [show vs.getD k undef = vat vs k from rfl] at hc
      go_wp2_with fail
      go_roundw
      case rel => exact ⟨k + 1, by omega, by go_num, by rw [hs.out]; congr 1, by first | rfl | trivial⟩
      case measure => simp [intOf]; omega
    · obtain rfl : k = uss.length := by omega
      rw [List.take_length]
      have Hg := fun w => Lib.hid (GrowII_c (totV uss) w hN)
      go_wp2_with fail
      refine (Hg _).out.mono ?_
      rintro e w1 ⟨v1, rfl, hS1⟩
      go_wp2_with fail
      go_loopw [6, 8, 27] (fun nv _ i wx => ∃ k : Nat, k ≤ uss.length ∧ i = .int .i64 k ∧ St wr.heap.size wr wx [row 23 nv (uss.take k).flatten]) (fun _ _ i _ => uss.length - (intOf i).toNat)
      case atStart => exact ⟨0, by omega, rfl, hS1⟩
      case round =>
        obtain ⟨k, hk, rfl, hS⟩ := hrel
        by_cases hlt : k < uss.length
        · have hb0 := totV_take_le uss (k + 1)
          have hs := Lib.hid (totV_take_succ hlt)
          have hb2 : totV (uss.take k) + (vsat uss k).length ≤ 1048576 := by have := hs.out; omega
          have hv2 := hv.keep hS.below
          have hc := hv2.1.cell (i := k) (by rw [hv.2.1]; exact hlt)
          have hr := Lib.hid (hv2.2.2 k hlt)
          have H2 := Lib.hid (show ∀ u ∈ vsat uss k, u.oneCell' = true from fun u hu => H1.out (vsat uss k) (by rw [vsat_eq hlt]; exact List.getElem_mem hlt) u hu)
          have hN2 := Lib.hid (show (uss.take k).flatten.length + (vsat uss k).length ≤ 4294967296 by rw [totV_flat]; omega)
          have he := Lib.hid (show (uss.take k).flatten ++ vsat uss k = (uss.take (k + 1)).flatten by rw [take_vsat hlt]; simp)
          rw [show vs.getD k undef = vat vs k from rfl] at hc
          clear hv2
          go_wp2_with (at_builtin; refine wpList_st_apps rfl _ _ 26 rfl 23 (.slice none 0 0) 24 Try.und_iss Try.info_is rfl hS 0 rfl rfl _ rfl _ hr.out H2.out (by omega) hN2.out ?_; intro v2 w2 hS2)
          go_roundw
          case rel => exact ⟨k + 1, by omega, by go_num, by rw [he.out] at hS2; exact hS2⟩
          case measure => simp [intOf]; omega
        · obtain rfl : k = uss.length := by omega
          rw [List.take_length] at hS
          go_wp2_with fail
          go_ret
          exact ⟨_, rfl, hS⟩

theorem own2_nil' : own2 (.slice none 0 0) [] [] = [row 23 (.slice none 0 0) []] := rfl
/-- behind the append of a row of its own -/
theorem own2_snoc {B : Nat} {w0 w : World} {v v' : Value} {us : List Value} {xss : List (List Int)} {u : Value} {xs : List Int} (hl : us.length = xss.length)
    (h : St B w0 w ((own2 v us xss ++ [row 2 u (iv xs)]).set 0 (row 23 v' (us ++ [u])))) : St B w0 w (own2 v' (us ++ [u]) (xss ++ [xs])) := by
  rw [own2, rowsI_app hl]
  exact h
set_option maxHeartbeats 1000000 in
set_option maxRecDepth 100000 in
theorem copyLists_c (v : Value) (us : List Value) (xss : List (List Int)) (w : World) (hv : RII w v us xss) (hN : xss.length ≤ 1048576) (hN2 : ∀ xs ∈ xss, xs.length ≤ 1048576) :
    Calls Try.prog 109 #[v] w (MakesII w xss) := by
  have hln := hv.len
  have hix := hv.ix
  have Hz := Lib.hid hN2
  clear hN2
  have hS1 := ((St.refl w).newnil 23)
  go_enter Try.func109, Try.ntmps109
  go_wp2_with fail
  go_loopw [3, 5, 8] (fun o _ i wr => ∃ (k : Nat) (us' : List Value), k ≤ xss.length ∧ i = .int .i64 k ∧ Hid (us'.length = k) ∧ St w.heap.size w wr (own2 o us' (xss.take k))) (fun o _ i _ => xss.length - (intOf i).toNat)
  case atStart => exact ⟨0, [], by omega, rfl, rfl, hS1⟩
  case round =>
    obtain ⟨k, us', hk, rfl, hl, hS⟩ := hrel
    have hlk : Hid (us'.length = (xss.take k).length) := by unfold Hid; rw [hl.out, List.length_take]; omega
    by_cases hlt : k < xss.length
    · have hc := (hS.oldII hv).cell k hlt
      have hr := Lib.hid ((hS.oldII hv).row k hlt)
      have hcall := Lib.hid (Clone_c _ _ _ hr.out (Hz.out _ (xat_mem hlt)))
      go_wp2_with fail
      refine hcall.out.mono ?_
      rintro e w2 ⟨u, rfl, h2⟩
      have hsl := (h2.rdI 0 rfl).sl
      have hone := Lib.hid hsl.one
      obtain ⟨ua, uc, rfl⟩ := hsl.sh
      have hS2 := hS.call h2
      clear hsl
      go_wp2_with (at_builtin; refine appII hS2 0 rfl (by rw [hl.out]; omega) rfl _ _ rfl rfl _ hone.out rfl ?_; intro v3 w3 hS3)
      go_roundw
      case rel => exact ⟨k + 1, us' ++ [_], by omega, by go_num, by simp [Hid, hl.out], by rw [take_xat hlt]; exact own2_snoc hlk.out hS3⟩
      case measure => simp [intOf]; omega
    · obtain rfl : k = xss.length := by omega
      rw [List.take_length] at hS
      go_wp2_with fail
      go_ret
      exact ⟨_, us', rfl, hl.out, hS⟩
set_option maxHeartbeats 1000000 in
set_option maxRecDepth 100000 in
theorem l06Own_c (v : Value) (us : List Value) (xss : List (List Int)) (w : World) (hv : RII w v us xss) (hN : xss.length ≤ 1048576) (hN2 : ∀ xs ∈ xss, xs.length ≤ 1048576) :
    Calls Try.prog 276 #[v] w (MakesII w xss) := by
  have hln := hv.len
  have hix := hv.ix
  have Hz := Lib.hid hN2
  clear hN2
  have hS1 := ((St.refl w).new 23 #[] (by simp))
  go_enter Try.func276, Try.ntmps276
  go_wp2_with fail
  go_loopw [3, 4] (fun o i wr => ∃ (k : Nat) (us' : List Value), k ≤ xss.length ∧ i = .int .i64 k ∧ Hid (us'.length = k) ∧ St w.heap.size w wr (own2 o us' (xss.take k))) (fun o i _ => xss.length - (intOf i).toNat)
  case atStart => exact ⟨0, [], by omega, rfl, rfl, hS1⟩
  case round =>
    obtain ⟨k, us', hk, rfl, hl, hS⟩ := hrel
    have hlk : Hid (us'.length = (xss.take k).length) := by unfold Hid; rw [hl.out, List.length_take]; omega
    by_cases hlt : k < xss.length
    · have hc := (hS.oldII hv).cell k hlt
      have hr := Lib.hid ((hS.oldII hv).row k hlt)
      have hcall := Lib.hid (l00Own_c _ _ _ hr.out (Hz.out _ (xat_mem hlt)))
      go_wp2_with fail
      refine hcall.out.mono ?_
      rintro e w2 ⟨u, rfl, h2⟩
      have hsl := (h2.rdI 0 rfl).sl
      have hone := Lib.hid hsl.one
      obtain ⟨ua, uc, rfl⟩ := hsl.sh
      have hS2 := hS.call h2
      clear hsl
      go_wp2_with (at_builtin; refine appII hS2 0 rfl (by rw [hl.out]; omega) rfl _ _ rfl rfl _ hone.out rfl ?_; intro v3 w3 hS3)
      go_roundw
      case rel => exact ⟨k + 1, us' ++ [_], by omega, by go_num, by simp [Hid, hl.out], by rw [take_xat hlt]; exact own2_snoc hlk.out hS3⟩
      case measure => simp [intOf]; omega
    · obtain rfl : k = xss.length := by omega
      rw [List.take_length] at hS
      go_wp2_with fail
      go_ret
      exact ⟨_, us', rfl, hl.out, hS⟩
end Go.Proofs.Ytcenabaklokhhaa
