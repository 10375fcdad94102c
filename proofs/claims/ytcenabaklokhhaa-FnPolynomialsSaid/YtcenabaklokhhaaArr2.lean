/- Walks: valid arrays, equal arrays. -/
import Derived.Test.YtcenabaklokhhaaArr
import Derived.Test.YtcenabaklokhhaaCF
namespace Go.Proofs.Ytcenabaklokhhaa
set_option linter.unusedSimpArgs false
set_option linter.unusedVariables false
open Go.RowKit

def eqA (lv co lv' co' : Int) (xss yss : List (List Int)) : Bool := decide (lv = lv' ∧ co = co' ∧ xss = yss)
theorem eqArray_c (lv co lv' co' : Int) (v v' : Value) (us us' : List Value) (xss yss : List (List Int)) (w : World) (hv : RII w v us xss) (hv' : RII w v' us' yss) :
    Calls Try.prog 36 #[av lv co v, av lv' co' v'] w (GivesB w (eqA lv co lv' co' xss yss)) := by
  have hS1 := ((St.refl w).newbox 47 #[.int .i64 lv, .int .i64 co, v]).newbox 47 #[.int .i64 lv', .int .i64 co', v']
  unfold av
  by_cases h1 : lv = lv'
  · have f1 := ne_f h1
    have H1 := Lib.hid h1; clear h1
    by_cases h2 : co = co'
    · have f2 := ne_f h2
      have H2 := Lib.hid h2; clear h2
      go_enter Try.func36, Try.ntmps36
      go_wp2_with fail
      refine (eqInt64SS_c v v' us us' xss yss _ (hS1.oldII hv) (hS1.oldII hv')).mono ?_
      by_cases h3 : xss = yss
      · have f3 : decide (xss = yss) = true := decide_eq_true h3
        have H3 := Lib.hid h3; clear h3
        rintro e w1 ⟨rfl, h⟩
        have hS2 := hS1.call0 (w' := w1) h
        go_wp2_with fail
        go_ret
        exact ⟨ret_bool (decide_eq_true ⟨H1.out, H2.out, H3.out⟩).symm, hS2.out⟩
      · have f3 : decide (xss = yss) = false := decide_eq_false h3
        have H3 := Lib.hid h3; clear h3
        rintro e w1 ⟨rfl, h⟩
        have hS2 := hS1.call0 (w' := w1) h
        go_wp2_with fail
        go_ret
        exact ⟨ret_bool (decide_eq_false (fun h => H3.out h.2.2)).symm, hS2.out⟩
    · have f2 := ne_t h2
      have H2 := Lib.hid h2; clear h2
      go_enter Try.func36, Try.ntmps36
      go_wp2_with fail
      go_ret
      exact ⟨ret_bool (decide_eq_false (fun h => H2.out h.2.1)).symm, hS1.out⟩
  · have f1 := ne_t h1
    have H1 := Lib.hid h1; clear h1
    go_enter Try.func36, Try.ntmps36
    go_wp2_with fail
    go_ret
    exact ⟨ret_bool (decide_eq_false (fun h => H1.out h.1)).symm, hS1.out⟩

def shapeB (lv co : Int) : Bool := inB lv 2 16 && inB co 1 8
def rowOk (lv co : Int) (xs : List Int) : Bool := decide ((xs.length : Int) = co) && !anyP (fun x => !inB x 0 (lv - 1)) xs
def okA (lv co : Int) (xss : List (List Int)) : Bool := shapeB lv co && decide (xss.length ≤ 256) && xss.all (rowOk lv co)

theorem isShape_c (lv co : Int) (w : World) : Calls Try.prog 214 #[.int .i64 lv, .int .i64 co] w fun e w' => e = .returned (.bool (shapeB lv co)) ∧ w = w' := by
  unfold shapeB
  cases h1 : inB lv 2 16
  · go_enter Try.func214, Try.ntmps214
    go_wp2_with fail
    refine (within_c _ _ _ _).mono ?_
    rintro e w1 ⟨rfl, rfl⟩
    go_wp2_with fail
    go_ret
    exact ⟨rfl, rfl⟩
  · go_enter Try.func214, Try.ntmps214
    go_wp2_with (go_at_call 134; refine (within_c _ _ _ _).mono ?_; rintro e w1 ⟨rfl, rfl⟩)
    go_ret
    exact ⟨ret_bool (by simp), rfl⟩
/-- a block that holds an array -/
def BoxA (w : World) (g : Nat) (lv co : Int) (v : Value) : Prop :=
  w.cell? ⟨g, 0, none⟩ = some (.int .i64 lv) ∧ w.cell? ⟨g, 1, none⟩ = some (.int .i64 co) ∧ w.cell? ⟨g, 2, none⟩ = some v
theorem cell_keep {w w' : World} (hb : Below w.heap.size w w') {p : Addr} {u : Value} (h : w.cell? p = some u) : w'.cell? p = some u := by
  rw [hb.cell (World.block_lt_of_cell? _ _ h)]; exact h
theorem BoxA.keep {w w' : World} {g : Nat} {lv co : Int} {v : Value} (h : BoxA w g lv co v) (hb : Below w.heap.size w w') : BoxA w' g lv co v :=
  ⟨cell_keep hb h.1, cell_keep hb h.2.1, cell_keep hb h.2.2⟩
theorem St.oldBox {w0 w : World} {L : List Ent} {g : Nat} {lv co : Int} {v : Value} (h : St w0.heap.size w0 w L) (hr : BoxA w0 g lv co v) : BoxA w g lv co v := hr.keep h.below

theorem valid1_c (x lv co : Int) (g : Nat) (v : Value) (w : World) (hb : BoxA w g lv co v) (hl : inB lv 2 16 = true) :
    Calls Try.prog 215 #[.int .i64 x, .pointer (some ⟨g, 0, none⟩)] w (GivesB w (!inB x 0 (lv - 1))) := by
  have hb0 := hb.1
  have hl2 : 2 ≤ lv ∧ lv ≤ 16 := by simpa [inB] using hl
  obtain ⟨l1, l2⟩ := hl2
  go_enter Try.func215, Try.ntmps215
  go_wp2_with fail
  refine (within_c _ _ _ _).mono ?_
  rintro e w1 ⟨rfl, rfl⟩
  go_wp2_with fail
  go_ret
  exact ⟨rfl, St.refl w⟩

theorem all_drop {xss : List (List Int)} {k : Nat} (hk : k < xss.length) (f : List Int → Bool) : (xss.drop k).all f = (f (xat xss k) && (xss.drop (k + 1)).all f) := by
  rw [drop_xat hk]; rfl

set_option maxHeartbeats 2000000 in
set_option maxRecDepth 100000 in
theorem ValidArray_c (lv co : Int) (v : Value) (us : List Value) (xss : List (List Int)) (w : World) (hv : RII w v us xss) :
    Calls Try.prog 138 #[av lv co v] w (GivesB w (okA lv co xss)) := by
  have hS1 := (St.refl w).newbox 47 #[.int .i64 lv, .int .i64 co, v]
  have hln := hv.len
  have hix := hv.ix
  unfold av
  cases hsh : shapeB lv co
  · go_enter Try.func138, Try.ntmps138
    go_wp2_with fail
    refine (isShape_c _ _ _).mono ?_
    rw [hsh]
    rintro e w1 ⟨rfl, rfl⟩
    go_wp2_with fail
    go_ret
    exact ⟨ret_bool (by simp [okA, hsh]), hS1.out⟩
  · have Hsh := Lib.hid hsh
    clear hsh
    by_cases hlen : xss.length ≤ 256
    · go_enter Try.func138, Try.ntmps138
      go_wp2_with fail
      refine (isShape_c _ _ _).mono ?_
      rw [Hsh.out]
      rintro e w1 ⟨rfl, rfl⟩
      have hcf := callFunc_go Try.func215 (by kernel_rfl) (by kernel_rfl)
      have hlv : inB lv 2 16 = true := by have := Hsh.out; unfold shapeB at this; revert this; cases inB lv 2 16 <;> simp
      have H0 := Lib.hid (show okA lv co xss = xss.all (rowOk lv co) by rw [okA, Hsh.out, decide_eq_true hlen]; rfl)
      have hco := Lib.hid hlv
      clear hlv
      have Hcf := Lib.hid hcf
      clear hcf
      go_wp2_with fail
      go_loopw [4, 20] (fun _ i wr => ∃ k : Nat, k ≤ xss.length ∧ i = .int .i64 k ∧ Hid (okA lv co xss = (xss.drop k).all (rowOk lv co)) ∧ St w.heap.size w wr [box 47 w.heap.size [.int .i64 lv, .int .i64 co, v]]) (fun _ i _ => xss.length - (intOf i).toNat)
      case atStart => exact ⟨0, by omega, rfl, H0, hS1⟩
      case round =>
        obtain ⟨k, hk, rfl, hI, hS⟩ := hrel
        by_cases hlt : k < xss.length
        · have hck := (hS.oldII hv).cell k hlt
          have hd := Lib.hid (all_drop hlt (rowOk lv co))
          have hq1 := fun s : SS w.heap.size w [box 47 w.heap.size [.int .i64 lv, .int .i64 co, v]] => s.st.bcell 0 rfl 1 rfl
          have hmf : ∀ (fn : Fn) (first cap : Array Value) (w : World), (Instr.makeFunc fn first cap).run Try.prog w = .ok (.func fn first cap) w := fun _ _ _ _ => rfl
          have hsz : ∀ s : SS w.heap.size w [box 47 w.heap.size [.int .i64 lv, .int .i64 co, v]], RdI s.w (vat us k) (xat xss k) := fun s => (s.st.oldII hv).row k hlt
          have Hsz := Lib.hid hsz
          clear hsz
          have hcall : ∀ s : SS w.heap.size w [box 47 w.heap.size [.int .i64 lv, .int .i64 co, v]], Calls Try.prog 201 #[vat us k, .func (.func 215) #[] #[.pointer (some ⟨w.heap.size, 0, none⟩)]] s.w (GivesB s.w (anyP (fun x => !inB x 0 (lv - 1)) (xat xss k))) := fun s =>
            ContainsFunc_c _ #[.pointer (some ⟨w.heap.size, 0, none⟩)] (fun x => !inB x 0 (lv - 1)) _ _ _ (Hsz.out s) Hcf.out (fun x W hW _ =>
              valid1_c x lv co w.heap.size v W (hW.oldBox ⟨s.st.bcell 0 rfl 0 rfl, s.st.bcell 0 rfl 1 rfl, s.st.bcell 0 rfl 2 rfl⟩) hco.out)
          have Hcall := Lib.hid hcall
          clear hcall
          by_cases h1 : ((xat xss k).length : Int) = co
          · have f1 := ne_f h1
            have H1 := Lib.hid h1; clear h1
            cases h2 : anyP (fun x => !inB x 0 (lv - 1)) (xat xss k)
            · have H2 := Lib.hid h2
              go_wp2_with fail
              have hne : Nonempty (SS _ _ _) := ⟨⟨_, hS⟩⟩
              refine wp_region_st (by kernel_rfl) (by kernel_rfl) hS ?_
              repeat (go_big_quiet_step ((first | (go_at_call 106; exact st_quiet0 (size_c _ _ _ (Hsz.out _))) | (go_at_call 201; exact st_quiet (Hcall.out _)))))
              refine wpQuiet_nil ?_
              rintro _ ⟨s2, rfl⟩
              have hS2 := s2.st
              generalize s2.w = w2 at hS2 ⊢
              rw [h2]
              clear h2
              go_wp2_with fail
              go_roundw
              case rel => exact ⟨k + 1, by omega, by go_num, by rw [Hid, hI.out, hd.out, rowOk, H2.out, decide_eq_true H1.out]; simp, hS2⟩
              case measure => simp [intOf]; omega
            · have H2 := Lib.hid h2
              go_wp2_with fail
              have hne : Nonempty (SS _ _ _) := ⟨⟨_, hS⟩⟩
              refine wp_region_st (by kernel_rfl) (by kernel_rfl) hS ?_
              repeat (go_big_quiet_step ((first | (go_at_call 106; exact st_quiet0 (size_c _ _ _ (Hsz.out _))) | (go_at_call 201; exact st_quiet (Hcall.out _)))))
              refine wpQuiet_nil ?_
              rintro _ ⟨s2, rfl⟩
              have hS2 := s2.st
              generalize s2.w = w2 at hS2 ⊢
              rw [h2]
              clear h2
              go_wp2_with fail
              go_ret
              exact ⟨ret_bool (by rw [hI.out, hd.out, rowOk, H2.out]; simp), hS2.out⟩
          · have f1 := ne_t h1
            have H1 := Lib.hid h1; clear h1
            go_wp2_with fail
            have hne : Nonempty (SS _ _ _) := ⟨⟨_, hS⟩⟩
            refine wp_region_st (by kernel_rfl) (by kernel_rfl) hS ?_
            repeat (go_big_quiet_step ((first | (go_at_call 106; exact st_quiet0 (size_c _ _ _ (Hsz.out _))) | (go_at_call 201; exact st_quiet (Hcall.out _)))))
            refine wpQuiet_nil ?_
            rintro _ ⟨s2, rfl⟩
            have hS2 := s2.st
            generalize s2.w = w2 at hS2 ⊢
            go_wp2_with fail
            go_ret
            exact ⟨ret_bool (by rw [hI.out, hd.out, rowOk, decide_eq_false H1.out]; simp), hS2.out⟩
        · go_wp2_with fail
          go_ret
          exact ⟨ret_bool (by rw [hI.out, List.drop_of_length_le (by omega)]; rfl), hS.out⟩
    · go_enter Try.func138, Try.ntmps138
      go_wp2_with fail
      refine (isShape_c _ _ _).mono ?_
      rw [Hsh.out]
      rintro e w1 ⟨rfl, rfl⟩
      have hlen' : 256 < xss.length := by omega
      go_wp2_with fail
      go_ret
      exact ⟨ret_bool (by rw [okA, decide_eq_false (by omega)]; simp), hS1.out⟩

/-- the first place from k on that is out of bounds, or the rest -/
theorem any_drop {xs : List Int} {k : Nat} (hk : k < xs.length) (p : Int → Bool) : anyP p (xs.drop k) = (p (nth xs k) || anyP p (xs.drop (k + 1))) := by
  rw [drop_nth hk]; rfl

end Go.Proofs.Ytcenabaklokhhaa
