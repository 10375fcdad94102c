/- Walks: arrays by value. Walks: valid arrays, equal arrays. -/
import Derived.Test.YtpfgbbbjldpnnaaEx
import Derived.Test.YtpfgbbbjldpnnaaIn
import Derived.Test.YtpfgbbbjldpnnaaCF
namespace Go.Proofs.Ytpfgbbbjldpnnaa
set_option linter.unusedSimpArgs false
set_option linter.unusedVariables false
open Go.RowKit


/-- an array as a value -/
def av (lv co : Int) (v : Value) : Value := .agg #[.int .i64 lv, .int .i64 co, v]

theorem szL_neg : ∀ {left : Int} {xss : List (List Int)}, 0 ≤ left → szL left xss < 0 → szL left xss = -1
  | left, [], h, h' => by simp only [szL] at h'; omega
  | left, x :: r, h, h' => by
    unfold szL at h' ⊢
    split
    · rfl
    · rename_i hn
      rw [if_neg hn] at h'
      exact szL_neg (by omega) h'
theorem szII_neg {left : Int} {xss : List (List Int)} (h : szII left xss < 0) : szII left xss = -1 := by
  unfold szII at h ⊢
  split
  · rfl
  · rename_i hn
    rw [if_neg hn] at h
    exact szL_neg (by omega) h

def eqA (lv co lv' co' : Int) (xss yss : List (List Int)) : Bool := decide (lv = lv' ∧ co = co' ∧ xss = yss)
theorem eqArray_c (lv co lv' co' : Int) (v v' : Value) (us us' : List Value) (xss yss : List (List Int)) (w : World) (hv : RII w v us xss) (hv' : RII w v' us' yss) :
    Calls Try.prog 40 #[av lv co v, av lv' co' v'] w (GivesB w (eqA lv co lv' co' xss yss)) := by
  have hS1 := ((St.refl w).newbox 59 #[.int .i64 lv, .int .i64 co, v]).newbox 59 #[.int .i64 lv', .int .i64 co', v']
  unfold av
  by_cases h1 : lv = lv'
  · have f1 := ne_f h1
    have H1 := Lib.hid h1; clear h1
    by_cases h2 : co = co'
    · have f2 := ne_f h2
      have H2 := Lib.hid h2; clear h2
      go_enter Try.func40, Try.ntmps40
      go_wp2_with fail
      refine (eqInt64SS_c v v' us us' xss yss _ (hS1.oldII hv) (hS1.oldII hv')).mono ?_
      by_cases h3 : xss = yss
      · have f3 : decide (xss = yss) = true := decide_eq_true h3
        have H3 := Lib.hid h3; clear h3
        rintro e w1 ⟨rfl, h⟩
        have hS2 := hS1.call0 (w' := w1) h
        go_wp2_with fail
        go_ret
        exact ⟨ret_bool (decide_eq_true ⟨H1.out, H2.out, H3.out⟩).symm, hS2.out⟩
      · have f3 : decide (xss = yss) = false := decide_eq_false h3
        have H3 := Lib.hid h3; clear h3
        rintro e w1 ⟨rfl, h⟩
        have hS2 := hS1.call0 (w' := w1) h
        go_wp2_with fail
        go_ret
        exact ⟨ret_bool (decide_eq_false (fun h => H3.out h.2.2)).symm, hS2.out⟩
    · have f2 := ne_t h2
      have H2 := Lib.hid h2; clear h2
      go_enter Try.func40, Try.ntmps40
      go_wp2_with fail
      go_ret
      exact ⟨ret_bool (decide_eq_false (fun h => H2.out h.2.1)).symm, hS1.out⟩
  · have f1 := ne_t h1
    have H1 := Lib.hid h1; clear h1
    go_enter Try.func40, Try.ntmps40
    go_wp2_with fail
    go_ret
    exact ⟨ret_bool (decide_eq_false (fun h => H1.out h.1)).symm, hS1.out⟩

def shapeB (lv co : Int) : Bool := inB lv 2 16 && inB co 1 8
def rowOk (lv co : Int) (xs : List Int) : Bool := decide ((xs.length : Int) = co) && !anyP (fun x => !inB x 0 (lv - 1)) xs
def okA (lv co : Int) (xss : List (List Int)) : Bool := shapeB lv co && decide (xss.length ≤ 256) && xss.all (rowOk lv co)

/-- a block that holds an array -/
def BoxA (w : World) (g : Nat) (lv co : Int) (v : Value) : Prop :=
  w.cell? ⟨g, 0, none⟩ = some (.int .i64 lv) ∧ w.cell? ⟨g, 1, none⟩ = some (.int .i64 co) ∧ w.cell? ⟨g, 2, none⟩ = some v
theorem cell_keep {w w' : World} (hb : Below w.heap.size w w') {p : Addr} {u : Value} (h : w.cell? p = some u) : w'.cell? p = some u := by
  rw [hb.cell (World.block_lt_of_cell? _ _ h)]; exact h
theorem BoxA.keep {w w' : World} {g : Nat} {lv co : Int} {v : Value} (h : BoxA w g lv co v) (hb : Below w.heap.size w w') : BoxA w' g lv co v :=
  ⟨cell_keep hb h.1, cell_keep hb h.2.1, cell_keep hb h.2.2⟩
theorem St.oldBox {w0 w : World} {L : List Ent} {g : Nat} {lv co : Int} {v : Value} (h : St w0.heap.size w0 w L) (hr : BoxA w0 g lv co v) : BoxA w g lv co v := hr.keep h.below

theorem all_drop {xss : List (List Int)} {k : Nat} (hk : k < xss.length) (f : List Int → Bool) : (xss.drop k).all f = (f (xat xss k) && (xss.drop (k + 1)).all f) := by
  rw [drop_xat hk]; rfl

/-- the first place from k on that is out of bounds, or the rest -/
theorem any_drop {xs : List Int} {k : Nat} (hk : k < xs.length) (p : Int → Bool) : anyP p (xs.drop k) = (p (nth xs k) || anyP p (xs.drop (k + 1))) := by
  rw [drop_nth hk]; rfl

end Go.Proofs.Ytpfgbbbjldpnnaa
