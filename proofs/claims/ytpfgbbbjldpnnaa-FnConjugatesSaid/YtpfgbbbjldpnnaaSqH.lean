/- Walks: valid squares of the reference; isotopes that are drawn; Isotope of the program. -/
import Derived.Test.YtpfgbbbjldpnnaaSqG
import Derived.Test.YtpfgbbbjldpnnaaSqB
namespace Go.Proofs.Ytpfgbbbjldpnnaa
set_option linter.unusedSimpArgs false
set_option linter.unusedVariables false
open Go.RowKit
attribute [local go_sem ↓] Go.wp_at_zero Go.wp_at_succ

set_option maxHeartbeats 4000000 in
set_option maxRecDepth 100000 in
theorem l06Ok_c (v : Value) (us : List Value) (A : List (List Int)) (w : World) (hv : RII w v us A) : Calls Try.prog 76 #[v] w (GivesB w (latB A)) := by
  have hln := hv.len
  have hix := hv.ix
  by_cases hn1 : A.length < 1
  · have Hl := Lib.hid (latB_no (A := A) fun h => by have := h.pos; omega)
    go_enter Try.func76, Try.ntmps76
    go_wp2_with fail
    go_ret
    exact ⟨ret_bool Hl.out.symm, St.refl w⟩
  · by_cases hn2 : 10 < A.length
    · have Hl := Lib.hid (latB_no (A := A) fun h => by have := h.le; omega)
      go_enter Try.func76, Try.ntmps76
      go_wp2_with fail
      go_ret
      exact ⟨ret_bool Hl.out.symm, St.refl w⟩
    · have Hrow := fun x (hx : x < A.length) (hb : ¬ ((xat A x).length = A.length ∧ pvB (xat A x) = true)) => Lib.hid (latB_no (A := A) fun h => hb ⟨h.len x hx, pvB_yes (by rw [h.len x hx]; omega) (h.row x hx)⟩)
      have Hc := fun y (hy : y < A.length) (h : pvB (colL A y) = false) => Lib.hid (latB_no (A := A) fun hl => by rw [hl.colP hy] at h; cases h)
      have HL := fun (ha : ∀ x, x < A.length → (xat A x).length = A.length ∧ pvB (xat A x) = true) hc => Lib.hid (latB_yes (Lat.mk' (A := A) (by omega) (by omega) (allP_of ha) hc))
      go_enter Try.func76, Try.ntmps76
      go_wp2_with fail
      go_loopw [4] (fun i wr => ∃ k : Nat, k ≤ A.length ∧ i = .int .i64 k ∧ Hid (∀ x, x < k → (xat A x).length = A.length ∧ pvB (xat A x) = true) ∧ St w.heap.size w wr []) (fun i _ => A.length - (intOf i).toNat)
      case atStart => exact ⟨0, by omega, rfl, fun x hx => by omega, St.refl w⟩
      case round =>
        obtain ⟨k, hk, rfl, hI, hS⟩ := hrel
        by_cases hlt : k < A.length
        · have ck := (hS.oldII hv).cell k hlt
          have hr := (hS.oldII hv).row k hlt
          have hrl := hr.len
          have HV := Lib.hid (l04Ok_c (vat us k) (xat A k) wr hr)
          have HI1 := Lib.hid (show (xat A k).length = A.length → pvB (xat A k) = true → ∀ x, x < k + 1 → (xat A x).length = A.length ∧ pvB (xat A x) = true from fun h1 h2 x hx => by
            by_cases e : x = k
            · rw [e]; exact ⟨h1, h2⟩
            · exact hI.out x (by omega))
          have HR := Hrow k hlt
          clear hr
          generalize hX : xat A k = X at *
          clear hX
          by_cases hxl : X.length = A.length
          · have f1 : ((X.length : Int) != (A.length : Int)) = false := ne_f (by omega)
            have Hxl := Lib.hid hxl
            clear hxl
            cases hp : pvB X
            · rw [hp] at HV
              have Hno := HR (fun h => by rw [hp] at h; cases h.2)
              clear hp
              go_wp2_with (go_at_call 62; refine HV.out.mono ?_; rintro e w2 ⟨rfl, h2⟩; have hS2 := hS.call0 h2)
              go_ret
              exact ⟨ret_bool Hno.out.symm, hS2⟩
            · rw [hp] at HV
              have HI2 := Lib.hid (HI1.out Hxl.out hp)
              clear hp
              go_wp2_with (go_at_call 62; refine HV.out.mono ?_; rintro e w2 ⟨rfl, h2⟩; have hS2 := hS.call0 h2)
              go_roundw
              case rel => exact ⟨k + 1, by omega, by go_num, HI2.out, hS2⟩
              case measure => simp [intOf]; omega
          · have f1 : ((X.length : Int) != (A.length : Int)) = true := ne_t (by omega)
            have Hno := HR (fun h => hxl h.1)
            clear hxl
            go_wp2_with fail
            go_ret
            exact ⟨ret_bool Hno.out.symm, hS⟩
        · obtain rfl : k = A.length := by omega
          have HL2 := fun hc => HL hI.out hc
          have Hrl := fun x (hx : x < A.length) => Lib.hid (hI.out x hx).1
          clear hI Hrow HL
          go_wp2_with fail
          go_loopw [5, 6, 7] (fun i _ _ wr => ∃ k : Nat, k ≤ A.length ∧ i = .int .i64 k ∧ Hid (∀ y, y < k → pvB (colL A y) = true) ∧ St w.heap.size w wr []) (fun i _ _ _ => A.length - (intOf i).toNat)
          case atStart => exact ⟨0, by omega, rfl, fun y hy => by omega, hS⟩
          case round =>
            clear hS
            obtain ⟨k, hk, rfl, hI, hS⟩ := hrel
            by_cases hlt : k < A.length
            · have hS1 := hS.call St.emp0
              simp only [List.nil_append] at hS1
              have Hcl := Lib.hid (colL_len A k)
              have Hct := fun m (h : m < A.length) => Lib.hid (col_take (A := A) (y := k) h)
              have Htl := fun m => Lib.hid (show ((colL A k).take m).length < 4294967296 by rw [List.length_take, colL_len]; omega)
              have HV := fun W u (h : RdI W u (colL A k)) => Lib.hid (l04Ok_c u _ W h)
              have Hck := Hc k hlt
              have Hta := Lib.hid (show (colL A k).take A.length = colL A k by rw [← Hcl.out, List.take_length])
              have Ht0 := Lib.hid (show (colL A k).take 0 = [] from rfl)
              have HI1 := Lib.hid (show pvB (colL A k) = true → ∀ y, y < k + 1 → pvB (colL A y) = true from fun h y hy => by
                by_cases e : y = k
                · rw [e]; exact h
                · exact hI.out y (by omega))
              generalize colL A k = C at *
              go_wp2_with fail
              go_loopw [6, 7] (fun c j wr' => ∃ m : Nat, m ≤ A.length ∧ j = .int .i64 m ∧ St w.heap.size w wr' [row 2 c (iv (C.take m))]) (fun _ j _ => A.length - (intOf j).toNat)
              case atStart => exact ⟨0, by omega, rfl, by rw [Ht0.out]; exact hS1⟩
              case round =>
                clear hS hS1
                obtain ⟨m, hm, rfl, hS⟩ := hrel
                by_cases hml : m < A.length
                · have hR := hS.oldII hv
                  have hcm := hR.cell m hml
                  have hrl := (Hrl m hml).out
                  have hxm := (hR.row m hml).ixe (k : Int) k rfl (by rw [hrl]; exact hlt)
                  have hcx : wr.cell? (el (vat us m) k) = some (.int .i64 (at2 A m k)) := (hR.row m hml).cell k (by rw [hrl]; exact hlt)
                  have Hst := Hct m hml
                  have HtL := Htl m
                  clear hR hrl
                  generalize at2 A m k = z at *
                  go_wp2_with (at_builtin; refine appI hS 0 rfl HtL.out rfl _ _ rfl rfl _ rfl ?_; intro v' w2 hS2)
                  simp only [List.set_cons_zero] at hS2
                  rw [← Hst.out] at hS2
                  go_roundw
                  case rel => exact ⟨m + 1, by omega, by go_num, hS2⟩
                  case measure => simp [intOf]; omega
                · obtain rfl : m = A.length := by omega
                  rw [Hta.out] at hS
                  have hV := HV _ _ (hS.rdI 0 rfl)
                  cases hp : pvB C
                  · rw [hp] at hV
                    have Hno := Hck hp
                    clear hp
                    go_wp2_with fail
                    refine hV.out.mono ?_
                    rintro e w4 ⟨rfl, h4⟩
                    have hS4 := hS.call0 h4
                    go_wp2_with fail
                    go_ret
                    exact ⟨ret_bool Hno.out.symm, hS4.out⟩
                  · rw [hp] at hV
                    have HI2 := Lib.hid (HI1.out hp)
                    clear hp
                    go_wp2_with fail
                    refine hV.out.mono ?_
                    rintro e w4 ⟨rfl, h4⟩
                    have hS4 := hS.call0 h4
                    go_wp2_with fail
                    go_roundw
                    case rel => exact ⟨k + 1, by omega, by go_num, HI2.out, hS4.out⟩
                    case measure => simp [intOf]; omega
            · obtain rfl : k = A.length := by omega
              have Hy := HL2 hI.out
              go_wp2_with fail
              go_ret
              exact ⟨ret_bool Hy.out.symm, hS⟩
theorem sValidSquare_c (v : Value) (us : List Value) (A : List (List Int)) (w : World) (hv : RII w v us A) : Calls Try.prog 21 #[v] w (GivesB w (latB A)) := by
  go_enter Try.func21, Try.ntmps21
  go_wp2_with fail
  refine (l06Ok_c v us A w hv).mono ?_
  rintro e w1 ⟨rfl, h1⟩
  go_wp2_with fail
  go_ret
  exact ⟨rfl, h1⟩
/-- a square and a code -/
def IIK (w : World) (A : List (List Int)) (c : Int) (e : Ending) (w' : World) : Prop := ∃ v us, e = .returned (.tuple #[v, .int .i64 c]) ∧ us.length = A.length ∧ St w.heap.size w w' (own2 v us A)
theorem IIK.no {w w' : World} {L : List Ent} {c : Int} (h : St w.heap.size w w' L) : IIK w [] c (.returned (.tuple #[.slice none 0 0, .int .i64 c])) w' := ⟨_, [], rfl, rfl, h.out.newnil _⟩
theorem Isotope_no1 (v vr vc vs : Value) (us : List Value) (A : List (List Int)) (w : World) (hv : RII w v us A) (hN : ∀ x, x < A.length → (xat A x).length ≤ 1048576) (hl : latB A = false) :
    Calls Try.prog 20 #[v, vr, vc, vs] w (IIK w [] 1) := by
  have HV := Lib.hid (ValidSquare_c v us A w hv hN)
  rw [hl] at HV
  clear hl
  go_enter Try.func20, Try.ntmps20
  go_wp2_with fail
  refine HV.out.mono ?_
  rintro e w1 ⟨rfl, h1⟩
  go_wp2_with fail
  go_ret2
  exact IIK.no h1
theorem lit3 {w w0 : World} {L : List Ent} {vr vc vs : Value} {r c s : List Int} (h : St w0.heap.size w0 w L) (hr : RdI w0 vr r) (hc : RdI w0 vc c) (hs : RdI w0 vs s) :
    St w0.heap.size w0 (w.alloc (.cells #[vr, vc, vs] 24)) (L ++ [row 24 (.slice (some ⟨w.heap.size, 0, none⟩) 3 3) [vr, vc, vs]]) ∧ RII (w.alloc (.cells #[vr, vc, vs] 24)) (.slice (some ⟨w.heap.size, 0, none⟩) 3 3) [vr, vc, vs] [r, c, s] := by
  have h1 := h.new 24 #[vr, vc, vs] (by simp [maxLen])
  refine ⟨h1, (h1.rd L.length (by simp; rfl)), rfl, fun j hj => ?_⟩
  have k1 := h1.oldI hr
  have k2 := h1.oldI hc
  have k3 := h1.oldI hs
  rcases j with _ | _ | _ | j
  · exact k1
  · exact k2
  · exact k3
  · simp at hj; omega
noncomputable def pv3 (n : Nat) (r c s : List Int) : Bool := allP n [r, c, s]
theorem pv3_t {n : Nat} {r c s : List Int} (h : pv3 n r c s = true) : (r.length = n ∧ IsP r) ∧ (c.length = n ∧ IsP c) ∧ (s.length = n ∧ IsP s) := by
  have h0 := allP_at h (x := 0) (by simp)
  have h1 := allP_at h (x := 1) (by simp)
  have h2 := allP_at h (x := 2) (by simp)
  exact ⟨⟨h0.1, (pvB_t h0.2).2⟩, ⟨h1.1, (pvB_t h1.2).2⟩, ⟨h2.1, (pvB_t h2.2).2⟩⟩
theorem pv3_of {n : Nat} {r c s : List Int} (hn : n ≤ 32) (hr : r.length = n ∧ IsP r) (hc : c.length = n ∧ IsP c) (hs : s.length = n ∧ IsP s) : pv3 n r c s = true := by
  refine allP_of fun x hx => ?_
  rcases x with _ | _ | _ | x
  · exact ⟨hr.1, pvB_yes (by rw [show (xat [r, c, s] 0).length = r.length from rfl]; omega) hr.2⟩
  · exact ⟨hc.1, pvB_yes (by rw [show (xat [r, c, s] 1).length = c.length from rfl]; omega) hc.2⟩
  · exact ⟨hs.1, pvB_yes (by rw [show (xat [r, c, s] 2).length = s.length from rfl]; omega) hs.2⟩
  · simp at hx; omega
set_option maxHeartbeats 4000000 in
set_option maxRecDepth 100000 in
theorem Isotope_c (v vr vc vs : Value) (us : List Value) (A : List (List Int)) (r c s : List Int) (w : World) (hv : RII w v us A) (hr : RdI w vr r) (hc : RdI w vc c) (hs : RdI w vs s)
    (hl : latB A = true) (lr : r.length ≤ 1048576) (lc : c.length ≤ 1048576) (ls : s.length ≤ 1048576) :
    Calls Try.prog 20 #[v, vr, vc, vs] w (if pv3 A.length r c s = true then IIK w (isoL A r c s) 0 else IIK w [] 2) := by
  have hL := latB_t hl
  have HV := Lib.hid (ValidSquare_c v us A w hv (fun x hx => by rw [hL.len x hx]; have := hL.le; omega))
  rw [hl] at HV
  have HZ := fun W (h : RII W v us A) => Lib.hid (szII_c v us A W h)
  have HP := fun W u (h : RII W u [vr, vc, vs] [r, c, s]) => Lib.hid (arePermutations_c A.length u [vr, vc, vs] [r, c, s] W h (fun x hx => by
    rcases x with _ | _ | _ | x
    · exact lr
    · exact lc
    · exact ls
    · simp at hx; omega))
  have HL := Lib.hid hL
  have HT := Lib.hid (fun h => pv3_t (n := A.length) (r := r) (c := c) (s := s) h)
  have hp3 : allP A.length [r, c, s] = pv3 A.length r c s := rfl
  rw [hp3] at HP
  obtain ⟨ar, kr, er⟩ := hr.shq
  obtain ⟨ac, kc, ec⟩ := hc.shq
  obtain ⟨as', ks, es⟩ := hs.shq
  clear hl hL hp3 lr lc ls
  subst er
  subst ec
  subst es
  cases hp : pv3 A.length r c s
  · rw [if_neg (by decide)]
    rw [hp] at HP
    clear hp HT
    go_enter Try.func20, Try.ntmps20
    go_wp2_with fail
    refine HV.out.mono ?_
    rintro e w1 ⟨rfl, h1⟩
    have hlit := lit3 h1 hr hc hs
    go_wp2_with (first
      | (go_at_call 73; refine (HP _ _ hlit.2).out.mono ?_; rintro e w3 ⟨rfl, h3⟩; have hS3 := hlit.1.call0 h3)
      | (go_at_call 74; refine (HZ _ (h1.oldII hv)).out.mono ?_; rintro e w2 ⟨rfl, rfl⟩))
    go_ret2
    exact IIK.no hS3
  · rw [if_pos rfl]
    have hT := HT.out hp
    have HI := fun W (a : RII W v us A) b c' d => Lib.hid (isotope_c v (.slice ar r.length kr) (.slice ac c.length kc) (.slice as' s.length ks) us A r c s W a b c' d HL.out.sq0 hT.1.2 hT.2.1.2 hT.1.1 hT.2.1.1 hT.2.2.1 (by have := HL.out.le; omega))
    rw [hp] at HP
    clear hp HT hT
    go_enter Try.func20, Try.ntmps20
    go_wp2_with fail
    refine HV.out.mono ?_
    rintro e w1 ⟨rfl, h1⟩
    have hlit := lit3 h1 hr hc hs
    go_wp2_with (first
      | (have hz := hS3; clear hz; go_at_call 75; refine (HI _ (hS3.oldII hv) (hS3.oldI hr) (hS3.oldI hc) (hS3.oldI hs)).out.mono ?_; rintro e w4 ⟨o, uo, rfl, hlo, h4⟩; have hS4 := hS3.call h4; have Hlo := Lib.hid hlo; clear hlo h4)
      | (go_at_call 73; refine (HP _ _ hlit.2).out.mono ?_; rintro e w3 ⟨rfl, h3⟩; have hS3 := (hlit.1.call0 h3).out)
      | (go_at_call 74; refine (HZ _ (h1.oldII hv)).out.mono ?_; rintro e w2 ⟨rfl, rfl⟩))
    go_ret2
    exact ⟨o, uo, rfl, Hlo.out, hS4⟩
theorem Isotope_yes (v vr vc vs : Value) (us : List Value) (A : List (List Int)) (r c s : List Int) (w : World) (hv : RII w v us A) (hr : RdI w vr r) (hc : RdI w vc c) (hs : RdI w vs s)
    (hl : latB A = true) (lr : r.length ≤ 1048576) (lc : c.length ≤ 1048576) (ls : s.length ≤ 1048576) (hp : pv3 A.length r c s = true) :
    Calls Try.prog 20 #[v, vr, vc, vs] w (IIK w (isoL A r c s) 0) := by
  have := Isotope_c v vr vc vs us A r c s w hv hr hc hs hl lr lc ls
  rwa [if_pos hp] at this
theorem Isotope_no2 (v vr vc vs : Value) (us : List Value) (A : List (List Int)) (r c s : List Int) (w : World) (hv : RII w v us A) (hr : RdI w vr r) (hc : RdI w vc c) (hs : RdI w vs s)
    (hl : latB A = true) (lr : r.length ≤ 1048576) (lc : c.length ≤ 1048576) (ls : s.length ≤ 1048576) (hp : pv3 A.length r c s = false) :
    Calls Try.prog 20 #[v, vr, vc, vs] w (IIK w [] 2) := by
  have := Isotope_c v vr vc vs us A r c s w hv hr hc hs hl lr lc ls
  rwa [if_neg (by rw [hp]; decide)] at this
end Go.Proofs.Ytpfgbbbjldpnnaa
