/- Walks: copies of slices, reslices, Concat. -/
import Derived.Test.YtpfgbbbjldpnnaaReg
import Derived.Lib.AppendZerosOnto
import Derived.Lib.SliceRun
namespace Go.Proofs.Ytpfgbbbjldpnnaa
set_option linter.unusedSimpArgs false
set_option linter.unusedVariables false
open Go.RowKit

/-- v[lo:hi], the capacity kept -/
def rsl (v : Value) (lo hi : Nat) : Value :=
  match v with
  | .slice a _ c => sliced a lo hi c 1
  | _ => v
theorem Try.und_isss : Try.prog.underlying 50 = some (.slice 37) := by kernel_rfl
theorem Try.size_iss : (Try.prog.info? 37).map (·.size) = some 1 := by kernel_rfl
theorem und_elem_is : Try.prog.underlying 24 = some (.slice (Try.prog.elem 24)) := by kernel_rfl
theorem elem_is_size : (Try.prog.info? (Try.prog.elem 24)).map (·.size) = some 1 := by kernel_rfl
theorem run_size_elem (W : World) : (sizeOf (Try.prog.elem 24)).run Try.prog W = .ok 1 W := by
  obtain ⟨inf, hinf, hs⟩ := Option.map_eq_some_iff.1 elem_is_size
  simp [sizeOf, typeInfo, hinf, hs]

theorem rsl_Rd {w : World} {v : Value} {us : List Value} (h : Rd w v us) {lo hi : Nat} (h1 : lo ≤ hi) (h2 : hi ≤ us.length) : Rd w (rsl v lo hi) ((us.take hi).drop lo) := by
  obtain ⟨⟨a, cap, rfl, hc1, hc2, ha⟩, hcell⟩ := h
  have hlen : ((us.take hi).drop lo).length = hi - lo := by simp; omega
  refine ⟨⟨if cap = lo then a else a.map (·.add (lo * 1)), cap - lo, ?_, ?_, by omega, ?_⟩, ?_⟩
  · show sliced a lo hi cap 1 = _
    rw [hlen]; rfl
  · rw [hlen]; omega
  · rw [hlen]
    rcases ha with ha | ha
    · left; omega
    · right; split
      · exact ha
      · simpa using ha
  · intro i u hu
    have hi' : i < hi - lo := by have := (List.getElem?_eq_some_iff.1 hu).1; rw [hlen] at this; exact this
    have hu' : us[lo + i]? = some u := by
      simp only [List.getElem?_drop, List.getElem?_take, show lo + i < hi by omega, if_true] at hu ⊢
      exact hu
    have hc := hcell (lo + i) u hu'
    rcases ha with ha | ha
    · omega
    · obtain ⟨b, rfl⟩ := Option.ne_none_iff_exists'.1 ha
      have hne : cap ≠ lo := by omega
      simp only [rsl, sliced, hne, if_false, Option.map_some, el, Nat.mul_one]
      rw [Addr.add_add]
      simpa [el] using hc
section
variable {w : World} {v : Value} {xs : List Int}
theorem rsl_rd (h : RdI w v xs) {lo hi : Nat} (h1 : lo ≤ hi) (h2 : hi ≤ xs.length) : RdI w (rsl v lo hi) ((xs.take hi).drop lo) := by
  have := rsl_Rd h h1 (show hi ≤ (iv xs).length by rw [iv_len]; exact h2)
  simpa [RdI, iv] using this
theorem rsl_hi (h : RdI w v xs) (hi : Nat) (h2 : hi ≤ xs.length) (W : World) :
    (Instr.slice 24 v none (some (.int .i64 (hi : Int))) none).run Try.prog W = .ok (rsl v 0 hi) W := by
  obtain ⟨⟨a, cap, rfl, hc1, hc2, ha⟩, hcell⟩ := h
  rw [iv_len] at hc1
  rw [run_slice_h W 24 a _ cap und_elem_is .i64 hi (by omega) (by omega), run_size_elem]
  rfl
theorem rsl_lo (h : RdI w v xs) (lo : Nat) (h2 : lo ≤ xs.length) (W : World) :
    (Instr.slice 24 v (some (.int .i64 (lo : Int))) none none).run Try.prog W = .ok (rsl v lo xs.length) W := by
  obtain ⟨⟨a, cap, rfl, hc1, hc2, ha⟩, hcell⟩ := h
  rw [iv_len] at hc1
  rw [run_slice_l W 24 a _ cap und_elem_is .i64 lo (by omega) (by rw [iv_len]; omega), run_size_elem]
  rw [iv_len]
  rfl
end

theorem St.newnil {B : Nat} {w0 w : World} {L : List Ent} (h : St B w0 w L) (e : TypeId) : St B w0 w (L ++ [row e (.slice none 0 0) []]) :=
  h.add ⟨rfl, rfl, rfl, Nat.le_refl _, fun _ _ _ => rfl⟩ _ (.inr (.inl ⟨rfl, rfl, rfl⟩)) (fun k hk => by simp [bk, row] at hk)

/-- a new row with room and no element -/
theorem St.room {B : Nat} {w0 w : World} {L : List Ent} (h : St B w0 w L) (e : TypeId) (z : Value) (hz : z.cells.size = 1) (n : Nat) (hn : n ≤ 4294967296) :
    St B w0 (w.drew.alloc (.cells (Builtin.zeroCells z.cells n ++ Builtin.zeroCells z.cells (grownCap w n 0 e - n)) e)) (L ++ [row e (.slice (some ⟨w.heap.size, 0, none⟩) 0 (grownCap w n 0 e)) []]) := by
  have hge := grownCap_ge w n 0 e
  have hcm := grownCap_le_maxLen w n 0 e (by unfold maxLen; omega)
  refine (h.drew).add (World.grownBy_alloc w.drew _ none) _ (.inr (.inr ⟨rfl, w.heap.size, grownCap w n 0 e, _, rfl, h.base, heap_alloc_new w.drew _, by simp [row], hcm, ?_, by simp [row]⟩)) (fun k hk => by simp [bk, row] at hk; simp; omega)
  simp [size_zeroCells, hz]; omega

set_option maxRecDepth 100000 in
theorem l00Own_c (v : Value) (xs : List Int) (w : World) (hv : RdI w v xs) (hN : xs.length ≤ 1048576) :
    Calls Try.prog 126 #[v] w (MakesI w xs) := by
  have hS1 := (St.refl w).new 2 #[] (by simp)
  go_enter Try.func126, Try.ntmps126
  go_wp2_with (at_builtin; refine appsI hS1 0 (xs := []) rfl v xs (hS1.oldI hv) (by simp; omega) rfl _ _ rfl rfl rfl ?_; intro v2 w2 hS2)
  go_ret
  exact ⟨v2, rfl, hS2⟩

set_option maxRecDepth 100000 in
theorem Clone_c (v : Value) (xs : List Int) (w : World) (hv : RdI w v xs) (hN : xs.length ≤ 1048576) :
    Calls Try.prog 102 #[v] w (MakesI w xs) := by
  have hS1 := (St.refl w).new 2 #[] (by simp)
  obtain ⟨⟨a, cap, rfl, hc1, hc2, ha⟩, _⟩ := id hv
  cases a with
  | none =>
    have hx : Hid (xs = []) := by
      rcases ha with ha | ha
      · rw [iv_len] at ha; exact List.eq_nil_of_length_eq_zero ha
      · exact absurd rfl ha
    have hq : ∀ W : World, (binOp .eql 24 (.slice none (iv xs).length cap) (.slice none 0 0)).run Try.prog W = .ok (.bool true) W := fun W => Lib.run_eql_slice_nil W _ _ none _ _ _ _ Try.und_is
    go_enter Try.func102, Try.ntmps102
    go_wp2_with fail
    go_ret
    refine ⟨_, rfl, ?_⟩
    rw [hx.out]
    exact (St.refl w).newnil _
  | some b =>
    have hq : ∀ W : World, (binOp .eql 24 (.slice (some b) (iv xs).length cap) (.slice none 0 0)).run Try.prog W = .ok (.bool false) W := fun W => Lib.run_eql_slice_nil W _ _ (some b) _ _ _ _ Try.und_is
    go_enter Try.func102, Try.ntmps102
    go_wp2_with (at_builtin; refine appsI hS1 0 (xs := []) rfl _ xs (hS1.oldI hv) (by simp; omega) rfl _ _ rfl rfl rfl ?_; intro v2 w2 hS2)
    go_ret
    exact ⟨v2, rfl, hS2⟩

def totV : List (List Value) → Nat
  | [] => 0
  | x :: r => x.length + totV r
def vsat (uss : List (List Value)) (j : Nat) : List Value := uss.getD j []
theorem vsat_eq {uss : List (List Value)} {j : Nat} (h : j < uss.length) : vsat uss j = uss[j] := by simp [vsat, h]
theorem take_vsat {uss : List (List Value)} {k : Nat} (hk : k < uss.length) : uss.take (k + 1) = uss.take k ++ [vsat uss k] := by
  rw [List.take_succ_eq_append_getElem hk, vsat_eq hk]
theorem totV_app (a b : List (List Value)) : totV (a ++ b) = totV a + totV b := by
  induction a with
  | nil => simp [totV]
  | cons x r ih => simp only [List.cons_append, totV, ih]; omega
theorem totV_take_succ {uss : List (List Value)} {k : Nat} (hk : k < uss.length) : totV (uss.take (k + 1)) = totV (uss.take k) + (vsat uss k).length := by
  rw [take_vsat hk, totV_app]; simp [totV]
theorem totV_take_le (uss : List (List Value)) (k : Nat) : totV (uss.take k) ≤ totV uss := by
  have := totV_app (uss.take k) (uss.drop k)
  rw [List.take_append_drop] at this; omega
theorem totV_flat (uss : List (List Value)) : uss.flatten.length = totV uss := by
  induction uss with
  | nil => rfl
  | cons x r ih => simp [totV, ih]

/-- it hands over a row of cells -/
def MakesR (e : TypeId) (w : World) (us : List Value) (en : Ending) (w' : World) : Prop := ∃ v, en = .returned v ∧ St w.heap.size w w' [row e v us]

/-- a slice of slices of cells -/
def RVV (w : World) (v : Value) (vs : List Value) (uss : List (List Value)) : Prop :=
  Rd w v vs ∧ vs.length = uss.length ∧ ∀ j, j < uss.length → Rd w (vat vs j) (vsat uss j)
theorem RVV.keep {w w' : World} {v : Value} {vs : List Value} {uss : List (List Value)} (h : RVV w v vs uss) (hb : Below w.heap.size w w') : RVV w' v vs uss := ⟨h.1.keep hb, h.2.1, fun j hj => (h.2.2 j hj).keep hb⟩


theorem own2_nil' : own2 (.slice none 0 0) [] [] = [row 24 (.slice none 0 0) []] := rfl
/-- behind the append of a row of its own -/
theorem own2_snoc {B : Nat} {w0 w : World} {v v' : Value} {us : List Value} {xss : List (List Int)} {u : Value} {xs : List Int} (hl : us.length = xss.length)
    (h : St B w0 w ((own2 v us xss ++ [row 2 u (iv xs)]).set 0 (row 24 v' (us ++ [u])))) : St B w0 w (own2 v' (us ++ [u]) (xss ++ [xs])) := by
  rw [own2, rowsI_app hl]
  exact h
set_option maxHeartbeats 1000000 in
set_option maxRecDepth 100000 in
theorem l06Own_c (v : Value) (us : List Value) (xss : List (List Int)) (w : World) (hv : RII w v us xss) (hN : xss.length ≤ 1048576) (hN2 : ∀ xs ∈ xss, xs.length ≤ 1048576) :
    Calls Try.prog 162 #[v] w (MakesII w xss) := by
  have hln := hv.len
  have hix := hv.ix
  have Hz := Lib.hid hN2
  clear hN2
  have hS1 := ((St.refl w).new 24 #[] (by simp))
  go_enter Try.func162, Try.ntmps162
  go_wp2_with fail
  go_loopw [3, 4] (fun o i wr => ∃ (k : Nat) (us' : List Value), k ≤ xss.length ∧ i = .int .i64 k ∧ Hid (us'.length = k) ∧ St w.heap.size w wr (own2 o us' (xss.take k))) (fun o i _ => xss.length - (intOf i).toNat)
  case atStart => exact ⟨0, [], by omega, rfl, rfl, hS1⟩
  case round =>
    obtain ⟨k, us', hk, rfl, hl, hS⟩ := hrel
    have hlk : Hid (us'.length = (xss.take k).length) := by unfold Hid; rw [hl.out, List.length_take]; omega
    by_cases hlt : k < xss.length
    · have hc := (hS.oldII hv).cell k hlt
      have hr := Lib.hid ((hS.oldII hv).row k hlt)
      have hcall := Lib.hid (l00Own_c _ _ _ hr.out (Hz.out _ (xat_mem hlt)))
      go_wp2_with fail
      refine hcall.out.mono ?_
      rintro e w2 ⟨u, rfl, h2⟩
      have hsl := (h2.rdI 0 rfl).sl
      have hone := Lib.hid hsl.one
      obtain ⟨ua, uc, rfl⟩ := hsl.sh
      have hS2 := hS.call h2
      clear hsl
      go_wp2_with (at_builtin; refine appII hS2 0 rfl (by rw [hl.out]; omega) rfl _ _ rfl rfl _ hone.out rfl ?_; intro v3 w3 hS3)
      go_roundw
      case rel => exact ⟨k + 1, us' ++ [_], by omega, by go_num, by simp [Hid, hl.out], by rw [take_xat hlt]; exact own2_snoc hlk.out hS3⟩
      case measure => simp [intOf]; omega
    · obtain rfl : k = xss.length := by omega
      rw [List.take_length] at hS
      go_wp2_with fail
      go_ret
      exact ⟨_, us', rfl, hl.out, hS⟩
theorem und_elem_iis : Try.prog.underlying 37 = some (.slice (Try.prog.elem 37)) := by kernel_rfl
theorem elem_iis_size : (Try.prog.info? (Try.prog.elem 37)).map (·.size) = some 1 := by kernel_rfl
theorem run_size_elemII (W : World) : (sizeOf (Try.prog.elem 37)).run Try.prog W = .ok 1 W := by
  obtain ⟨inf, hinf, hs⟩ := Option.map_eq_some_iff.1 elem_iis_size
  simp [sizeOf, typeInfo, hinf, hs]
theorem rslII_hi {w : World} {v : Value} {us : List Value} (h : Rd w v us) (hi : Nat) (h2 : hi ≤ us.length) (W : World) :
    (Instr.slice 37 v none (some (.int .i64 (hi : Int))) none).run Try.prog W = .ok (rsl v 0 hi) W := by
  obtain ⟨⟨a, cap, rfl, hc1, hc2, ha⟩, hcell⟩ := h
  rw [run_slice_h W 37 a _ cap und_elem_iis .i64 hi (by omega) (by omega), run_size_elemII]
  rfl
end Go.Proofs.Ytpfgbbbjldpnnaa
