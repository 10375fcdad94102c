/- Walks: the reference's operations on elements of a valid field. -/
import Derived.Test.YtcenabaklokhhaaFop
namespace Go.Proofs.Ytcenabaklokhhaa
set_option linter.unusedSimpArgs false
set_option linter.unusedVariables false
open Go.RowKit
attribute [local go_sem ↓] Go.wp_at_zero Go.wp_at_succ

set_option maxHeartbeats 1000000 in
set_option maxRecDepth 100000 in
theorem l03Has_c (p : Int) (D : Nat) (g : Nat) (v : Value) (fs : List Int) (a b : Int) (w : World) (hv : RdI w v fs) (hbx : BoxF w g p D v) (hf : FV p D fs) (ha : El p D a) (hb : El p D b) :
    Calls Try.prog 107 #[.pointer (some ⟨g, 0, none⟩), .int .i64 a, .int .i64 b] w (GivesB w true) := by
  have hok := Lib.hid (l03Ok_c p D g v fs w hv hbx)
  rw [hf.ok] at hok
  have hsz := fun w' (hb : BoxF w' g p D v) => Lib.hid (l03Size_c p D g v fs w' hb hf)
  rw [Int.toNat_natCast] at hsz
  have HB := Lib.hid hbx
  have i1 : inB a 0 (p ^ D - 1) = true := inB_true (by have := ha.1; have := ha.2; omega)
  have i2 : inB b 0 (p ^ D - 1) = true := inB_true (by have := hb.1; have := hb.2; omega)
  have hq := hf.q64
  have hq0 : 0 < p ^ D := Int.pow_pos hf.fa.pos
  clear hf ha hb hv hbx
  generalize p ^ D = q at *
  go_enter Try.func107, Try.ntmps107
  go_wp2_with fail
  refine hok.out.mono ?_
  rintro e w1 ⟨rfl, h1⟩
  go_wp2_with fail
  refine (hsz w1 (h1.oldF HB.out)).out.mono ?_
  rintro e w2 ⟨rfl, h2⟩
  have hS2 := h1.call0 h2
  go_wp2_with (go_at_call 165; refine (l00In_c _ _ _ _).mono ?_; rintro e w3 ⟨rfl, rfl⟩)
  refine (hsz w2 (hS2.oldF HB.out)).out.mono ?_
  rintro e w4 ⟨rfl, h4⟩
  have hS4 := hS2.call0 h4
  go_wp2_with (go_at_call 165; refine (l00In_c _ _ _ _).mono ?_; rintro e w5 ⟨rfl, rfl⟩)
  go_ret
  exact ⟨rfl, hS4⟩

set_option maxHeartbeats 1000000 in
set_option maxRecDepth 100000 in
theorem sFieldMul_c (p : Int) (D : Nat) (v : Value) (fs : List Int) (a b : Int) (w : World) (hv : RdI w v fs) (hf : FV p D fs) (ha : El p D a) (hb : El p D b) :
    Calls Try.prog 19 #[fv p D v, .int .i64 a, .int .i64 b] w (GivesI w (fmul p D fs a b)) := by
  have hS0 := (St.refl w).newboxF 25 #[.int .i64 p, .int .i64 D, v]
  have hbx : BoxF _ w.heap.size p D v := ⟨hS0.bcell 0 rfl 0 rfl, hS0.bcell 0 rfl 1 rfl, hS0.bcell 0 rfl 2 rfl⟩
  have Hh := Lib.hid (l03Has_c p D _ v fs a b _ (hS0.oldI hv) hbx hf ha hb)
  have Hm := fun w' (hv' : RdI w' v fs) (hb' : BoxF w' w.heap.size p D v) => Lib.hid (l03Mul_c p D _ v fs a b w' hv' hb' hf (ha.lim hf).1 (ha.lim hf).2 (hb.lim hf).1 (hb.lim hf).2)
  have HB := Lib.hid hbx
  clear hf ha hb hbx
  unfold fv
  go_enter Try.func19, Try.ntmps19
  go_wp2_with fail
  refine Hh.out.mono ?_
  rintro e w1 ⟨rfl, h1⟩
  have hS1 := hS0.call0 h1
  go_wp2_with fail
  refine (Hm w1 (hS1.oldI hv) (HB.out.keep h1.below)).out.mono ?_
  rintro e w2 ⟨rfl, h2⟩
  have hS2 := hS1.call0 h2
  go_wp2_with fail
  go_ret
  exact ⟨rfl, hS2.out⟩

set_option maxHeartbeats 1000000 in
set_option maxRecDepth 100000 in
theorem sFieldAdd_c (p : Int) (D : Nat) (v : Value) (fs : List Int) (a b : Int) (w : World) (hv : RdI w v fs) (hf : FV p D fs) (ha : El p D a) (hb : El p D b) :
    Calls Try.prog 62 #[fv p D v, .int .i64 a, .int .i64 b] w (GivesI w (fsum p D a b 1)) := by
  have hS0 := (St.refl w).newboxF 25 #[.int .i64 p, .int .i64 D, v]
  have hbx : BoxF _ w.heap.size p D v := ⟨hS0.bcell 0 rfl 0 rfl, hS0.bcell 0 rfl 1 rfl, hS0.bcell 0 rfl 2 rfl⟩
  have Hh := Lib.hid (l03Has_c p D _ v fs a b _ (hS0.oldI hv) hbx hf ha hb)
  have Hm := fun w' (hb' : BoxF w' w.heap.size p D v) => Lib.hid (l03Sum_c p D _ v fs a b 1 w' hb' hf (ha.lim hf).1 (ha.lim hf).2 (hb.lim hf).1 (hb.lim hf).2 (by omega) (by omega))
  have HB := Lib.hid hbx
  clear hf ha hb hbx
  unfold fv
  go_enter Try.func62, Try.ntmps62
  go_wp2_with fail
  refine Hh.out.mono ?_
  rintro e w1 ⟨rfl, h1⟩
  have hS1 := hS0.call0 h1
  go_wp2_with fail
  refine (Hm w1 (HB.out.keep h1.below)).out.mono ?_
  rintro e w2 ⟨rfl, h2⟩
  have hS2 := hS1.call0 h2
  go_wp2_with fail
  go_ret
  exact ⟨rfl, hS2.out⟩

set_option maxHeartbeats 1000000 in
set_option maxRecDepth 100000 in
theorem sFieldSize_c (p : Int) (D : Nat) (v : Value) (fs : List Int) (w : World) (hv : RdI w v fs) (hf : FV p D fs) : Calls Try.prog 58 #[fv p D v] w (GivesI w (p ^ D)) := by
  have hS0 := (St.refl w).newboxF 25 #[.int .i64 p, .int .i64 D, v]
  have hbx : BoxF _ w.heap.size p D v := ⟨hS0.bcell 0 rfl 0 rfl, hS0.bcell 0 rfl 1 rfl, hS0.bcell 0 rfl 2 rfl⟩
  have hok := Lib.hid (l03Ok_c p D _ v fs _ (hS0.oldI hv) hbx)
  rw [hf.ok] at hok
  have hsz := fun w' (hb : BoxF w' w.heap.size p D v) => Lib.hid (l03Size_c p D _ v fs w' hb hf)
  rw [Int.toNat_natCast] at hsz
  have HB := Lib.hid hbx
  clear hf hbx
  generalize p ^ D = q at *
  unfold fv
  go_enter Try.func58, Try.ntmps58
  go_wp2_with fail
  refine hok.out.mono ?_
  rintro e w1 ⟨rfl, h1⟩
  have hS1 := hS0.call0 h1
  go_wp2_with fail
  refine (hsz w1 (HB.out.keep h1.below)).out.mono ?_
  rintro e w2 ⟨rfl, h2⟩
  have hS2 := hS1.call0 h2
  go_wp2_with fail
  go_ret
  exact ⟨rfl, hS2.out⟩
end Go.Proofs.Ytcenabaklokhhaa
