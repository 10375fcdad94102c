/- Walks: valid Latin squares, isotopes, of the program. Walks: isotopes of the program. -/
import Derived.Test.YtpfgbbbjldpnnaaPLat
import Derived.Test.YtpfgbbbjldpnnaaAnyR
import Derived.Test.YtpfgbbbjldpnnaaMk
import Derived.Test.YtpfgbbbjldpnnaaPm6
import Derived.Test.YtpfgbbbjldpnnaaMrk
namespace Go.Proofs.Ytpfgbbbjldpnnaa
set_option linter.unusedSimpArgs false
set_option linter.unusedVariables false
open Go.RowKit
attribute [local go_sem ↓] Go.wp_at_zero Go.wp_at_succ


theorem szII_c (v : Value) (us : List Value) (xss : List (List Int)) (w : World) (hv : RII w v us xss) :
    Calls Try.prog 74 #[v] w fun e w' => e = .returned (.int .i64 xss.length) ∧ w = w' := by
  have hln := hv.len
  go_enter Try.func74, Try.ntmps74
  go_wp2_with fail
  go_ret
  exact ⟨rfl, rfl⟩
/-- a permutation of n numbers -/
noncomputable def pvN (n : Nat) (xs : List Int) : Bool := decide (xs.length = n) && pvB xs
set_option maxHeartbeats 2000000 in
set_option maxRecDepth 100000 in
theorem areP1_c (v : Value) (xs : List Int) (n : Nat) (g : Nat) (w : World) (hv : RdI w v xs) (hb : w.cell? ⟨g, 0, none⟩ = some (.int .i64 n)) (hN : xs.length ≤ 1048576) :
    Calls Try.prog 109 #[v, .pointer (some ⟨g, 0, none⟩)] w (GivesB w (!pvN n xs)) := by
  have hq : ∀ s : SS w.heap.size w [], s.w.cell? ⟨g, 0, none⟩ = some (.int .i64 n) := fun s => by rw [s.st.below.cell (World.block_lt_of_cell? _ _ hb)]; exact hb
  have HZ := fun s : SS w.heap.size w [] => Lib.hid (sz_c v xs s.w (s.st.oldI hv))
  have HV := fun s : SS w.heap.size w [] => Lib.hid (ValidPermutation_c v xs s.w (s.st.oldI hv) hN)
  have hS := St.refl w
  by_cases h : xs.length = n
  · have f1 : ((xs.length : Int) != (n : Int)) = false := ne_f (by omega)
    have He : Hid ((!pvN n xs) = !pvB xs) := Lib.hid (by rw [pvN, decide_eq_true h]; rfl)
    rw [He.out]
    generalize pvB xs = b at *
    clear h He
    go_enter Try.func109, Try.ntmps109
    go_wp2_with fail
    have hne : Nonempty (SS _ _ _) := ⟨⟨_, hS⟩⟩
    refine wp_region_st (by kernel_rfl) (by kernel_rfl) hS ?_
    repeat (go_big_quiet_step ((first | (go_at_call 60; exact st_quiet0 (HZ _).out) | (go_at_call 58; exact st_quiet (HV _).out))))
    refine wpQuiet_nil ?_
    rintro _ ⟨s2, rfl⟩
    have hS2 := s2.st
    generalize s2.w = w2 at hS2 ⊢
    go_wp2_with fail
    go_ret
    exact ⟨rfl, hS2⟩
  · have f1 : ((xs.length : Int) != (n : Int)) = true := ne_t (by omega)
    have He : Hid ((!pvN n xs) = true) := Lib.hid (by rw [pvN, decide_eq_false h]; rfl)
    rw [He.out]
    clear h He
    go_enter Try.func109, Try.ntmps109
    go_wp2_with fail
    have hne : Nonempty (SS _ _ _) := ⟨⟨_, hS⟩⟩
    refine wp_region_st (by kernel_rfl) (by kernel_rfl) hS ?_
    repeat (go_big_quiet_step ((first | (go_at_call 60; exact st_quiet0 (HZ _).out) | (go_at_call 58; exact st_quiet (HV _).out))))
    refine wpQuiet_nil ?_
    rintro _ ⟨s2, rfl⟩
    have hS2 := s2.st
    generalize s2.w = w2 at hS2 ⊢
    go_wp2_with fail
    go_ret
    exact ⟨rfl, hS2⟩
/-- all rows are permutations of n numbers -/
noncomputable def allP (n : Nat) (A : List (List Int)) : Bool := !anyR (fun r => !pvN n r) A
theorem allP_at {n : Nat} {A : List (List Int)} (h : allP n A = true) {x : Nat} (hx : x < A.length) : (xat A x).length = n ∧ pvB (xat A x) = true := by
  unfold allP anyR at h
  have h' : A.any (fun r => !pvN n r) = false := by simpa using h
  have := List.any_eq_false.1 h' _ (xat_mem hx)
  simpa [pvN] using this
theorem allP_of {n : Nat} {A : List (List Int)} (h : ∀ x, x < A.length → (xat A x).length = n ∧ pvB (xat A x) = true) : allP n A = true := by
  unfold allP anyR
  have : A.any (fun r => !pvN n r) = false := by
    rw [List.any_eq_false]
    intro r hr
    obtain ⟨x, hx, rfl⟩ := List.getElem_of_mem hr
    have := h x hx
    rw [xat_eq hx] at this
    simp [pvN, this]
  rw [this]; rfl
set_option maxHeartbeats 2000000 in
set_option maxRecDepth 100000 in
theorem arePermutations_c (n : Nat) (v : Value) (us : List Value) (A : List (List Int)) (w : World) (hv : RII w v us A) (hN : ∀ x, x < A.length → (xat A x).length ≤ 1048576) :
    Calls Try.prog 73 #[.int .i64 n, v] w (GivesB w (allP n A)) := by
  have hS1 := (St.refl w).newboxF 2 #[.int .i64 n]
  have hcf := callFunc_go Try.func109 (by kernel_rfl) (by kernel_rfl)
  have hmf : ∀ (fn : Fn) (first cap : Array Value) (w : World), (Instr.makeFunc fn first cap).run Try.prog w = .ok (.func fn first cap) w := fun _ _ _ _ => rfl
  have hcall := Lib.hid (ContainsFuncR_c 109 #[.pointer (some ⟨w.heap.size, 0, none⟩)] (fun r => !pvN n r) v us A _ (hS1.oldII hv) hcf (fun j W hW hj => areP1_c (vat us j) (xat A j) n w.heap.size W ((hW.oldII (hS1.oldII hv)).row j hj) (by
    rw [hW.below.cell (World.block_lt_of_cell? _ _ (hS1.bcell 0 rfl 0 rfl))]; exact hS1.bcell 0 rfl 0 rfl) (hN j hj)))
  clear hcf hN
  go_enter Try.func73, Try.ntmps73
  go_wp2_with fail
  refine hcall.out.mono ?_
  rintro e w1 ⟨rfl, h1⟩
  have hS2 := hS1.call0 h1
  go_wp2_with fail
  go_ret
  exact ⟨rfl, hS2.out⟩
theorem Lat.mk' {A : List (List Int)} (h1 : 1 ≤ A.length) (h2 : A.length ≤ 10) (ha : allP A.length A = true) (hc : ∀ y, y < A.length → pvB (colL A y) = true) : Lat A :=
  ⟨h1, h2, fun _ hx => (allP_at ha hx).1, fun _ hx => (pvB_t (allP_at ha hx).2).2, fun y hy => (pvB_t (hc y hy)).2⟩
theorem Lat.allP {A : List (List Int)} (h : Lat A) : allP A.length A = true := allP_of fun x hx => ⟨h.len x hx, pvB_yes (by rw [h.len x hx]; have := h.le; omega) (h.row x hx)⟩
theorem Lat.colP {A : List (List Int)} (h : Lat A) {y : Nat} (hy : y < A.length) : pvB (colL A y) = true := pvB_yes (by rw [colL_len]; have := h.le; omega) (h.col y hy)
theorem col_take {A : List (List Int)} {y k : Nat} (h : k < A.length) : (colL A y).take (k + 1) = (colL A y).take k ++ [at2 A k y] := by
  rw [take_nth (by rw [colL_len]; exact h), nth_colL h]
set_option maxHeartbeats 4000000 in
set_option maxRecDepth 100000 in
theorem ValidSquare_c (v : Value) (us : List Value) (A : List (List Int)) (w : World) (hv : RII w v us A) (hN : ∀ x, x < A.length → (xat A x).length ≤ 1048576) :
    Calls Try.prog 23 #[v] w (GivesB w (latB A)) := by
  have hln := hv.len
  have hix := hv.ix
  have HZ := fun W (h : RII W v us A) => Lib.hid (szII_c v us A W h)
  have HA := fun W (h : RII W v us A) => Lib.hid (arePermutations_c A.length v us A W h hN)
  by_cases hn : 1 ≤ (A.length : Int) ∧ (A.length : Int) ≤ 10
  · have i1 := inB_true hn
    cases ha : allP A.length A
    · have Hl := Lib.hid (latB_no (A := A) fun h => by rw [h.allP] at ha; cases ha)
      rw [ha] at HA
      clear ha
      go_enter Try.func23, Try.ntmps23
      go_wp2_with fail
      refine (HZ _ hv).out.mono ?_
      rintro e w1 ⟨rfl, rfl⟩
      go_wp2_with (first
        | (go_at_call 73; refine (HA _ hv).out.mono ?_; rintro e w3 ⟨rfl, h3⟩)
        | (go_at_call 67; refine (within_c _ _ _ _).mono ?_; rw [i1]; rintro e w2 ⟨rfl, rfl⟩))
      go_ret
      exact ⟨ret_bool Hl.out.symm, h3⟩
    · have hlt2 : A.length ≤ 10 := by omega
      have HL := Lib.hid (fun h => Lat.mk' (A := A) (by omega) hlt2 ha h)
      have Hc := fun y (hy : y < A.length) (h : pvB (colL A y) = false) => Lib.hid (latB_no (A := A) fun hl => by rw [hl.colP hy] at h; cases h)
      have Hrl := fun x (hx : x < A.length) => Lib.hid (allP_at ha hx).1
      rw [ha] at HA
      clear ha
      go_enter Try.func23, Try.ntmps23
      go_wp2_with fail
      refine (HZ _ hv).out.mono ?_
      rintro e w1 ⟨rfl, rfl⟩
      go_wp2_with (first
        | (go_at_call 73; refine (HA _ hv).out.mono ?_; rintro e w3 ⟨rfl, h3⟩)
        | (go_at_call 67; refine (within_c _ _ _ _).mono ?_; rw [i1]; rintro e w2 ⟨rfl, rfl⟩))
      go_loopw [4, 5, 6, 20, 25] (fun _ _ _ i _ wr => ∃ k : Nat, k ≤ A.length ∧ i = .int .i64 k ∧ Hid (∀ y, y < k → pvB (colL A y) = true) ∧ St w.heap.size w wr []) (fun _ _ _ i _ _ => A.length - (intOf i).toNat)
      case atStart => exact ⟨0, by omega, rfl, fun y hy => by omega, h3⟩
      case round =>
        clear h3
        obtain ⟨k, hk, rfl, hI, hS⟩ := hrel
        by_cases hlt : k < A.length
        · have hS1 := hS.emp
          have Hcl := Lib.hid (colL_len A k)
          have Hct := fun m (h : m < A.length) => Lib.hid (col_take (A := A) (y := k) h)
          have Htl := fun m => Lib.hid (show ((colL A k).take m).length < 4294967296 by rw [List.length_take, colL_len]; omega)
          have HV := fun W u (h : RdI W u (colL A k)) => Lib.hid (ValidPermutation_c u _ W h (by rw [colL_len]; omega))
          have Hck := Hc k hlt
          have Hta := Lib.hid (show (colL A k).take A.length = colL A k by rw [← Hcl.out, List.take_length])
          have Ht0 := Lib.hid (show (colL A k).take 0 = [] from rfl)
          have HI1 := Lib.hid (show pvB (colL A k) = true → ∀ y, y < k + 1 → pvB (colL A y) = true from fun h y hy => by
            by_cases e : y = k
            · rw [e]; exact h
            · exact hI.out y (by omega))
          generalize colL A k = C at *
          go_wp2_with fail
          go_loopw [5, 6, 25] (fun c _ j wr' => ∃ m : Nat, m ≤ A.length ∧ j = .int .i64 m ∧ St w.heap.size w wr' [row 2 c (iv (C.take m))]) (fun _ _ j _ => A.length - (intOf j).toNat)
          case atStart => exact ⟨0, by omega, rfl, by rw [Ht0.out]; exact hS1⟩
          case round =>
            clear hS hS1
            obtain ⟨m, hm, rfl, hS⟩ := hrel
            by_cases hml : m < A.length
            · have hR := hS.oldII hv
              have hcm := hR.cell m hml
              have hrl := (Hrl m hml).out
              have hxm := (hR.row m hml).ixe (k : Int) k rfl (by rw [hrl]; exact hlt)
              have hcx : wr.cell? (el (vat us m) k) = some (.int .i64 (at2 A m k)) := (hR.row m hml).cell k (by rw [hrl]; exact hlt)
              have Hst := Hct m hml
              have HtL := Htl m
              clear hR hrl
              generalize at2 A m k = z at *
              go_wp2_with (at_builtin; refine appI hS 0 rfl HtL.out rfl _ _ rfl rfl _ rfl ?_; intro v' w2 hS2)
              simp only [List.set_cons_zero] at hS2
              rw [← Hst.out] at hS2
              go_roundw
              case rel => exact ⟨m + 1, by omega, by go_num, hS2⟩
              case measure => simp [intOf]; omega
            · obtain rfl : m = A.length := by omega
              rw [Hta.out] at hS
              have hV := HV _ _ (hS.rdI 0 rfl)
              cases hp : pvB C
              · rw [hp] at hV
                have Hno := Hck hp
                clear hp
                go_wp2_with fail
                refine hV.out.mono ?_
                rintro e w4 ⟨rfl, h4⟩
                have hS4 := hS.call0 h4
                go_wp2_with fail
                go_ret
                exact ⟨ret_bool Hno.out.symm, hS4.out⟩
              · rw [hp] at hV
                have HI2 := Lib.hid (HI1.out hp)
                clear hp
                go_wp2_with fail
                refine hV.out.mono ?_
                rintro e w4 ⟨rfl, h4⟩
                have hS4 := hS.call0 h4
                go_wp2_with fail
                go_roundw
                case rel => exact ⟨k + 1, by omega, by go_num, HI2.out, hS4.out⟩
                case measure => simp [intOf]; omega
        · obtain rfl : k = A.length := by omega
          have Hy := Lib.hid (latB_yes (HL.out hI.out))
          go_wp2_with fail
          go_ret
          exact ⟨ret_bool Hy.out.symm, hS⟩
  · have i1 := inB_false hn
    have Hl := Lib.hid (latB_no (A := A) fun h => hn (by have := h.pos; have := h.le; omega))
    clear hn
    go_enter Try.func23, Try.ntmps23
    go_wp2_with fail
    refine (HZ _ hv).out.mono ?_
    rintro e w1 ⟨rfl, rfl⟩
    go_wp2_with (go_at_call 67; refine (within_c _ _ _ _).mono ?_; rw [i1]; rintro e w2 ⟨rfl, rfl⟩)
    go_ret
    exact ⟨ret_bool Hl.out.symm, St.refl _⟩


set_option maxHeartbeats 8000000 in
set_option maxRecDepth 100000 in
theorem isotope_c (v vr vc vs : Value) (us : List Value) (A : List (List Int)) (r c s : List Int) (w : World) (hv : RII w v us A) (hr : RdI w vr r) (hc : RdI w vc c) (hs : RdI w vs s)
    (h : Sq0 A.length A) (pr : IsP r) (pc : IsP c) (lr : r.length = A.length) (lc : c.length = A.length) (ls : s.length = A.length) (hn : A.length ≤ 100) :
    Calls Try.prog 75 #[v, vr, vc, vs] w (MakesII w (isoL A r c s)) := by
  have hln := hv.len
  have hix := hv.ix
  have hrx := hr.ixe
  have hcx := hc.ixe
  have hsx := hs.ixe
  rw [lr] at hrx
  rw [lc] at hcx
  rw [ls] at hsx
  have HZ := fun W (h : RII W v us A) => Lib.hid (szII_c v us A W h)
  have HE := fun W => Lib.hid (emptySquare_c A.length W (by omega))
  have H := Lib.hid (And.intro h (And.intro pr (And.intro pc (And.intro lr (And.intro lc ls)))))
  have Hst := Lib.hid (IsoP.start (A := A) (r := r) (c := c) (s := s))
  have Hv := Lib.hid hv
  have Hr := Lib.hid hr
  have Hc := Lib.hid hc
  have Hs := Lib.hid hs
  clear h pr pc lr lc ls
  go_enter Try.func75, Try.ntmps75
  go_wp2_with (first
    | (go_at_call 80; refine (HE _).out.mono ?_; rintro e w2 ⟨o, uo, rfl, hl, hS2⟩; have Hl := Lib.hid hl; clear hl)
    | (go_at_call 74; refine (HZ _ hv).out.mono ?_; rintro e w1 ⟨rfl, rfl⟩))
  rw [sqF_len] at Hl
  have hS3 : St w.heap.size w w2 (own2 o uo (sqF A.length fun _ _ => 0) ++ []) := by rw [List.append_nil]; exact hS2
  clear hS2 hv hr hc hs
  go_loopw [10, 11, 12, 13, 19, 26] (fun _ _ _ _ i _ wr => ∃ (k : Nat) (S : List (List Int)), k ≤ A.length ∧ i = .int .i64 k ∧ Hid (IsoP A r c s k 0 S) ∧ St w.heap.size w wr (own2 o uo S ++ [])) (fun _ _ _ _ i _ _ => A.length - (intOf i).toNat)
  case atStart => exact ⟨0, _, by omega, rfl, Hst.out, hS3⟩
  case round =>
    clear hS3
    obtain ⟨k, S, hk, rfl, hI, hS⟩ := hrel
    by_cases hlt : k < A.length
    · have ck := (hS.oldII Hv.out).cell k hlt
      have hrow := (Hv.out.row k hlt)
      have hrl := H.out.1.row k hlt
      have hrn := hrow.len
      rw [hrl] at hrn
      have hri := hrow.ixe
      rw [hrl] at hri
      have Hrow := Lib.hid hrow
      have Hrl := Lib.hid hrl
      clear hrow hrl
      go_wp2_with fail
      go_loopw [12, 13, 26] (fun _ _ j wr' => ∃ (y : Nat) (S : List (List Int)), y ≤ A.length ∧ j = .int .i64 y ∧ Hid (IsoP A r c s k y S) ∧ St w.heap.size w wr' (own2 o uo S ++ [])) (fun _ _ j _ => A.length - (intOf j).toNat)
      case atStart => exact ⟨0, S, by omega, rfl, hI.out, hS⟩
      case round =>
        clear hI hS ck
        obtain ⟨y, S, hy, rfl, hI, hS⟩ := hrel
        by_cases hly : y < A.length
        · obtain ⟨m, hm, hmn⟩ : ∃ m : Nat, at2 A k y = m ∧ m < A.length := by
            have := H.out.1.el k y hlt hly
            exact ⟨(at2 A k y).toNat, by omega, by omega⟩
          have cy : wr.cell? (el (vat us k) y) = some (.int .i64 (m : Int)) := by
            rw [← hm]; exact (hS.oldI Hrow.out).cell y (by rw [Hrl.out]; exact hly)
          have hri2 := hri (y : Int) y rfl hly
          obtain ⟨a, ha⟩ : ∃ a, a = pf r k := ⟨_, rfl⟩
          obtain ⟨b, hb⟩ : ∃ b, b = pf c y := ⟨_, rfl⟩
          have han : a < A.length := by rw [ha, ← H.out.2.2.2.1]; exact H.out.2.1.pf_lt (by rw [H.out.2.2.2.1]; exact hlt)
          have hbn : b < A.length := by rw [hb, ← H.out.2.2.2.2.1]; exact H.out.2.2.1.pf_lt (by rw [H.out.2.2.2.2.1]; exact hly)
          have c1 := (hS.oldI Hr.out).cell k (by rw [H.out.2.2.2.1]; exact hlt)
          rw [nth_pf H.out.2.1 (by rw [H.out.2.2.2.1]; exact hlt), ← ha] at c1
          have c2 := (hS.oldI Hc.out).cell y (by rw [H.out.2.2.2.2.1]; exact hly)
          rw [nth_pf H.out.2.2.1 (by rw [H.out.2.2.2.2.1]; exact hly), ← hb] at c2
          have c3 := (hS.oldI Hs.out).cell m (by rw [H.out.2.2.2.2.2]; exact hmn)
          have x1 := hrx (k : Int) k rfl hlt
          have x2 := hcx (y : Int) y rfl hly
          have x3 := hsx (m : Int) m rfl hmn
          have hsl : S.length = A.length := hI.out.sqr.len
          have hsa : (xat S a).length = A.length := hI.out.sqr.row a han
          have hlS : uo.length = S.length := by rw [Hl.out, hsl]
          have hR := rii2 hS hlS
          have hat := hS.at_row hlS (j := a) (by rw [hsl]; exact han)
          have z0 := hR.cell a (by rw [hsl]; exact han)
          have xo := hR.ixe (a : Int) a rfl (by rw [hsl]; exact han)
          have xb := (hS.rdI (a + 1) hat).ixe (b : Int) b rfl (by rw [hsa]; exact hbn)
          have u1 := hS.unfrozen (a + 1) hat (j := b) (by rw [iv_len, hsa]; exact hbn)
          have co1 := (hS.rdI (a + 1) hat).cell b (by rw [hsa]; exact hbn)
          have HS9 := Lib.hid (hS.drew.store (a + 1) hat (j := b) (by rw [iv_len, hsa]; exact hbn) (.int .i64 (nth s m)))
          have Hst2 := Lib.hid (hI.out.step H.out.2.1 H.out.2.2.1 H.out.2.2.2.1 H.out.2.2.2.2.1 hlt hly)
          have Hset := Lib.hid (own2_set (v := o) (L2 := []) hlS (j := a) (by rw [hsl]; exact han) ((xat S a).set b (nth s m)))
          rw [← ha, ← hb, hm, Int.toNat_natCast] at Hst2
          generalize nth s m = q at *
          clear hI hR hat hlS hsl hsa ha hb hm han hbn hS
          go_wp2_with fail
          refine regionG (fun w' => w'.cell? (el vr k) = some (.int .i64 (a : Int)) ∧ w'.cell? (el o a) = some (vat uo a) ∧ w'.cell? (el vc y) = some (.int .i64 (b : Int)) ∧ w'.cell? (el vs m) = some (.int .i64 q)) 16 (by kernel_rfl) ⟨cell_dr c1, cell_dr z0, cell_dr c2, cell_dr c3⟩ (fun hHeld => ?_)
          refine takeP (i := 0) (v := ?_) rfl (by kernel_rfl) (fun _ _ _ h => h) (by rfl) ?_ (by assumption) ?_
          case refine_2 => (intro w'; go_simp; first | done | with_reducible rfl)
          try simp only [Act.put, List.setIfInBounds_toArray, List.set_cons_zero, List.set_cons_succ]
          refine takeP (i := 1) (v := ?_) rfl (by kernel_rfl) (fun _ _ _ h => h) (by rfl) ?_ (by assumption) ?_
          case refine_2 => (intro w'; go_simp; first | done | with_reducible rfl)
          try simp only [Act.put, List.setIfInBounds_toArray, List.set_cons_zero, List.set_cons_succ]
          refine takeP (i := 2) (v := ?_) rfl (by kernel_rfl) (fun _ _ _ h => h) (by rfl) ?_ (by assumption) ?_
          case refine_2 => (intro w'; go_simp; first | done | with_reducible rfl)
          try simp only [Act.put, List.setIfInBounds_toArray, List.set_cons_zero, List.set_cons_succ]
          refine takeP (i := 3) (v := ?_) rfl (by kernel_rfl) (fun _ _ _ h => h) (by rfl) ?_ (by assumption) ?_
          case refine_2 => (intro w'; go_simp; first | done | with_reducible rfl)
          try simp only [Act.put, List.setIfInBounds_toArray, List.set_cons_zero, List.set_cons_succ]
          refine takeH (i := 4) [5, 6, 15] (v := ?_) rfl (by kernel_rfl) (fun _ _ _ h => h) (by rfl) ?_ (by assumption) ?_
          case refine_2 => (intro w' hSw; (try dsimp only at hSw); go_simp; first | done | with_reducible rfl)
          try simp only [Act.put, List.setIfInBounds_toArray, List.set_cons_zero, List.set_cons_succ]
          refine takeP (i := 5) (v := ?_) rfl (by kernel_rfl) (fun _ _ _ h => h) (by rfl) ?_ (by assumption) ?_
          case refine_2 => (intro w'; go_simp; first | done | with_reducible rfl)
          try simp only [Act.put, List.setIfInBounds_toArray, List.set_cons_zero, List.set_cons_succ]
          refine takeH (i := 6) [15] (v := ?_) rfl (by kernel_rfl) (fun _ _ _ h => h) (by rfl) ?_ (by assumption) ?_
          case refine_2 => (intro w' hSw; (try dsimp only at hSw); go_simp; first | done | with_reducible rfl)
          try simp only [Act.put, List.setIfInBounds_toArray, List.set_cons_zero, List.set_cons_succ]
          refine takeP (i := 7) (v := ?_) rfl (by kernel_rfl) (fun _ _ _ h => h) (by rfl) ?_ (by assumption) ?_
          case refine_2 => (intro w'; go_simp; first | done | with_reducible rfl)
          try simp only [Act.put, List.setIfInBounds_toArray, List.set_cons_zero, List.set_cons_succ]
          refine takeP (i := 8) (v := ?_) rfl (by kernel_rfl) (fun _ _ _ h => h) (by rfl) ?_ (by assumption) ?_
          case refine_2 => (intro w'; go_simp; first | done | with_reducible rfl)
          try simp only [Act.put, List.setIfInBounds_toArray, List.set_cons_zero, List.set_cons_succ]
          refine takeP (i := 9) (v := ?_) rfl (by kernel_rfl) (fun _ _ _ h => h) (by rfl) ?_ (by assumption) ?_
          case refine_2 => (intro w'; go_simp; first | done | with_reducible rfl)
          try simp only [Act.put, List.setIfInBounds_toArray, List.set_cons_zero, List.set_cons_succ]
          refine takeH (i := 10) [15] (v := ?_) rfl (by kernel_rfl) (fun _ _ _ h => h) (by rfl) ?_ (by assumption) ?_
          case refine_2 => (intro w' hSw; (try dsimp only at hSw); go_simp; first | done | with_reducible rfl)
          try simp only [Act.put, List.setIfInBounds_toArray, List.set_cons_zero, List.set_cons_succ]
          refine takeP (i := 11) (v := ?_) rfl (by kernel_rfl) (fun _ _ _ h => h) (by rfl) ?_ (by assumption) ?_
          case refine_2 => (intro w'; go_simp; first | done | with_reducible rfl)
          try simp only [Act.put, List.setIfInBounds_toArray, List.set_cons_zero, List.set_cons_succ]
          refine takeP (i := 12) (v := ?_) rfl (by kernel_rfl) (fun _ _ _ h => h) (by rfl) ?_ (by assumption) ?_
          case refine_2 => (intro w'; go_simp; first | done | with_reducible rfl)
          try simp only [Act.put, List.setIfInBounds_toArray, List.set_cons_zero, List.set_cons_succ]
          refine takeP (i := 13) (v := ?_) rfl (by kernel_rfl) (fun _ _ _ h => h) (by rfl) ?_ (by assumption) ?_
          case refine_2 => (intro w'; go_simp; first | done | with_reducible rfl)
          try simp only [Act.put, List.setIfInBounds_toArray, List.set_cons_zero, List.set_cons_succ]
          refine takeH (i := 14) [] (v := ?_) rfl (by kernel_rfl) (fun _ _ _ h => h) (by rfl) ?_ (by assumption) ?_
          case refine_2 => (intro w' hSw; (try dsimp only at hSw); go_simp; first | done | with_reducible rfl)
          try simp only [Act.put, List.setIfInBounds_toArray, List.set_cons_zero, List.set_cons_succ]
          refine takeP (i := 15) (v := ?_) rfl (by kernel_rfl) (fun _ _ _ h => h) (by rfl) ?_ (by assumption) ?_
          case refine_2 => (intro w'; go_simp; first | done | with_reducible rfl)
          try simp only [Act.put, List.setIfInBounds_toArray, List.set_cons_zero, List.set_cons_succ]
          refine readyG (rs := [16]) (by kernel_rfl) (by simp) ?_
          refine AllG.last rfl (by kernel_rfl) (fun K hK => ?_) AllG.nil
          go_simp
          refine hK.out _ _ ?_
          clear hK K
          try simp only [Act.put, List.setIfInBounds_toArray, List.set_cons_zero, List.set_cons_succ]
          refine doneG (by kernel_rfl) ?_ _
          refine NoPanic.normal ?_
          have hS9 := HS9.out
          rw [iv_set, Hset.out] at hS9
          go_wp2_with fail
          go_roundw
          case rel => exact ⟨y + 1, _, by omega, by go_num, Hst2.out, hS9⟩
          case measure => simp [intOf]; omega
        · obtain rfl : y = A.length := by omega
          have Hnx := Lib.hid hI.out.next
          go_wp2_with fail
          go_roundw
          case rel => exact ⟨k + 1, S, by omega, by go_num, Hnx.out, hS⟩
          case measure => simp [intOf]; omega
    · obtain rfl : k = A.length := by omega
      have hd := hI.out.done H.out.2.1 H.out.2.2.1 H.out.2.2.2.1 H.out.2.2.2.2.1
      rw [List.append_nil] at hS
      have hlS : uo.length = S.length := by rw [Hl.out, hI.out.sqr.len]
      rw [hd] at hS hlS
      have HL := Lib.hid hlS
      clear hd hlS
      go_wp2_with fail
      go_ret
      exact ⟨o, uo, rfl, HL.out, hS⟩

set_option maxHeartbeats 4000000 in
set_option maxRecDepth 100000 in
theorem l06Ok_c (v : Value) (us : List Value) (A : List (List Int)) (w : World) (hv : RII w v us A) : Calls Try.prog 76 #[v] w (GivesB w (latB A)) := by
  have hln := hv.len
  have hix := hv.ix
  by_cases hn1 : A.length < 1
  · have Hl := Lib.hid (latB_no (A := A) fun h => by have := h.pos; omega)
    go_enter Try.func76, Try.ntmps76
    go_wp2_with fail
    go_ret
    exact ⟨ret_bool Hl.out.symm, St.refl w⟩
  · by_cases hn2 : 10 < A.length
    · have Hl := Lib.hid (latB_no (A := A) fun h => by have := h.le; omega)
      go_enter Try.func76, Try.ntmps76
      go_wp2_with fail
      go_ret
      exact ⟨ret_bool Hl.out.symm, St.refl w⟩
    · have Hrow := fun x (hx : x < A.length) (hb : ¬ ((xat A x).length = A.length ∧ pvB (xat A x) = true)) => Lib.hid (latB_no (A := A) fun h => hb ⟨h.len x hx, pvB_yes (by rw [h.len x hx]; omega) (h.row x hx)⟩)
      have Hc := fun y (hy : y < A.length) (h : pvB (colL A y) = false) => Lib.hid (latB_no (A := A) fun hl => by rw [hl.colP hy] at h; cases h)
      have HL := fun (ha : ∀ x, x < A.length → (xat A x).length = A.length ∧ pvB (xat A x) = true) hc => Lib.hid (latB_yes (Lat.mk' (A := A) (by omega) (by omega) (allP_of ha) hc))
      go_enter Try.func76, Try.ntmps76
      go_wp2_with fail
      go_loopw [4] (fun i wr => ∃ k : Nat, k ≤ A.length ∧ i = .int .i64 k ∧ Hid (∀ x, x < k → (xat A x).length = A.length ∧ pvB (xat A x) = true) ∧ St w.heap.size w wr []) (fun i _ => A.length - (intOf i).toNat)
      case atStart => exact ⟨0, by omega, rfl, fun x hx => by omega, St.refl w⟩
      case round =>
        obtain ⟨k, hk, rfl, hI, hS⟩ := hrel
        by_cases hlt : k < A.length
        · have ck := (hS.oldII hv).cell k hlt
          have hr := (hS.oldII hv).row k hlt
          have hrl := hr.len
          have HV := Lib.hid (l04Ok_c (vat us k) (xat A k) wr hr)
          have HI1 := Lib.hid (show (xat A k).length = A.length → pvB (xat A k) = true → ∀ x, x < k + 1 → (xat A x).length = A.length ∧ pvB (xat A x) = true from fun h1 h2 x hx => by
            by_cases e : x = k
            · rw [e]; exact ⟨h1, h2⟩
            · exact hI.out x (by omega))
          have HR := Hrow k hlt
          clear hr
          generalize hX : xat A k = X at *
          clear hX
          by_cases hxl : X.length = A.length
          · have f1 : ((X.length : Int) != (A.length : Int)) = false := ne_f (by omega)
            have Hxl := Lib.hid hxl
            clear hxl
            cases hp : pvB X
            · rw [hp] at HV
              have Hno := HR (fun h => by rw [hp] at h; cases h.2)
              clear hp
              go_wp2_with (go_at_call 62; refine HV.out.mono ?_; rintro e w2 ⟨rfl, h2⟩; have hS2 := hS.call0 h2)
              go_ret
              exact ⟨ret_bool Hno.out.symm, hS2⟩
            · rw [hp] at HV
              have HI2 := Lib.hid (HI1.out Hxl.out hp)
              clear hp
              go_wp2_with (go_at_call 62; refine HV.out.mono ?_; rintro e w2 ⟨rfl, h2⟩; have hS2 := hS.call0 h2)
              go_roundw
              case rel => exact ⟨k + 1, by omega, by go_num, HI2.out, hS2⟩
              case measure => simp [intOf]; omega
          · have f1 : ((X.length : Int) != (A.length : Int)) = true := ne_t (by omega)
            have Hno := HR (fun h => hxl h.1)
            clear hxl
            go_wp2_with fail
            go_ret
            exact ⟨ret_bool Hno.out.symm, hS⟩
        · obtain rfl : k = A.length := by omega
          have HL2 := fun hc => HL hI.out hc
          have Hrl := fun x (hx : x < A.length) => Lib.hid (hI.out x hx).1
          clear hI Hrow HL
          go_wp2_with fail
          go_loopw [5, 6, 7] (fun i _ _ wr => ∃ k : Nat, k ≤ A.length ∧ i = .int .i64 k ∧ Hid (∀ y, y < k → pvB (colL A y) = true) ∧ St w.heap.size w wr []) (fun i _ _ _ => A.length - (intOf i).toNat)
          case atStart => exact ⟨0, by omega, rfl, fun y hy => by omega, hS⟩
          case round =>
            clear hS
            obtain ⟨k, hk, rfl, hI, hS⟩ := hrel
            by_cases hlt : k < A.length
            · have hS1 := hS.call St.emp0
              simp only [List.nil_append] at hS1
              have Hcl := Lib.hid (colL_len A k)
              have Hct := fun m (h : m < A.length) => Lib.hid (col_take (A := A) (y := k) h)
              have Htl := fun m => Lib.hid (show ((colL A k).take m).length < 4294967296 by rw [List.length_take, colL_len]; omega)
              have HV := fun W u (h : RdI W u (colL A k)) => Lib.hid (l04Ok_c u _ W h)
              have Hck := Hc k hlt
              have Hta := Lib.hid (show (colL A k).take A.length = colL A k by rw [← Hcl.out, List.take_length])
              have Ht0 := Lib.hid (show (colL A k).take 0 = [] from rfl)
              have HI1 := Lib.hid (show pvB (colL A k) = true → ∀ y, y < k + 1 → pvB (colL A y) = true from fun h y hy => by
                by_cases e : y = k
                · rw [e]; exact h
                · exact hI.out y (by omega))
              generalize colL A k = C at *
              go_wp2_with fail
              go_loopw [6, 7] (fun c j wr' => ∃ m : Nat, m ≤ A.length ∧ j = .int .i64 m ∧ St w.heap.size w wr' [row 2 c (iv (C.take m))]) (fun _ j _ => A.length - (intOf j).toNat)
              case atStart => exact ⟨0, by omega, rfl, by rw [Ht0.out]; exact hS1⟩
              case round =>
                clear hS hS1
                obtain ⟨m, hm, rfl, hS⟩ := hrel
                by_cases hml : m < A.length
                · have hR := hS.oldII hv
                  have hcm := hR.cell m hml
                  have hrl := (Hrl m hml).out
                  have hxm := (hR.row m hml).ixe (k : Int) k rfl (by rw [hrl]; exact hlt)
                  have hcx : wr.cell? (el (vat us m) k) = some (.int .i64 (at2 A m k)) := (hR.row m hml).cell k (by rw [hrl]; exact hlt)
                  have Hst := Hct m hml
                  have HtL := Htl m
                  clear hR hrl
                  generalize at2 A m k = z at *
                  go_wp2_with (at_builtin; refine appI hS 0 rfl HtL.out rfl _ _ rfl rfl _ rfl ?_; intro v' w2 hS2)
                  simp only [List.set_cons_zero] at hS2
                  rw [← Hst.out] at hS2
                  go_roundw
                  case rel => exact ⟨m + 1, by omega, by go_num, hS2⟩
                  case measure => simp [intOf]; omega
                · obtain rfl : m = A.length := by omega
                  rw [Hta.out] at hS
                  have hV := HV _ _ (hS.rdI 0 rfl)
                  cases hp : pvB C
                  · rw [hp] at hV
                    have Hno := Hck hp
                    clear hp
                    go_wp2_with fail
                    refine hV.out.mono ?_
                    rintro e w4 ⟨rfl, h4⟩
                    have hS4 := hS.call0 h4
                    go_wp2_with fail
                    go_ret
                    exact ⟨ret_bool Hno.out.symm, hS4.out⟩
                  · rw [hp] at hV
                    have HI2 := Lib.hid (HI1.out hp)
                    clear hp
                    go_wp2_with fail
                    refine hV.out.mono ?_
                    rintro e w4 ⟨rfl, h4⟩
                    have hS4 := hS.call0 h4
                    go_wp2_with fail
                    go_roundw
                    case rel => exact ⟨k + 1, by omega, by go_num, HI2.out, hS4.out⟩
                    case measure => simp [intOf]; omega
            · obtain rfl : k = A.length := by omega
              have Hy := HL2 hI.out
              go_wp2_with fail
              go_ret
              exact ⟨ret_bool Hy.out.symm, hS⟩
theorem sValidSquare_c (v : Value) (us : List Value) (A : List (List Int)) (w : World) (hv : RII w v us A) : Calls Try.prog 21 #[v] w (GivesB w (latB A)) := by
  go_enter Try.func21, Try.ntmps21
  go_wp2_with fail
  refine (l06Ok_c v us A w hv).mono ?_
  rintro e w1 ⟨rfl, h1⟩
  go_wp2_with fail
  go_ret
  exact ⟨rfl, h1⟩
/-- a square and a code -/
def IIK (w : World) (A : List (List Int)) (c : Int) (e : Ending) (w' : World) : Prop := ∃ v us, e = .returned (.tuple #[v, .int .i64 c]) ∧ us.length = A.length ∧ St w.heap.size w w' (own2 v us A)
theorem IIK.no {w w' : World} {L : List Ent} {c : Int} (h : St w.heap.size w w' L) : IIK w [] c (.returned (.tuple #[.slice none 0 0, .int .i64 c])) w' := ⟨_, [], rfl, rfl, h.out.newnil _⟩
theorem Isotope_no1 (v vr vc vs : Value) (us : List Value) (A : List (List Int)) (w : World) (hv : RII w v us A) (hN : ∀ x, x < A.length → (xat A x).length ≤ 1048576) (hl : latB A = false) :
    Calls Try.prog 20 #[v, vr, vc, vs] w (IIK w [] 1) := by
  have HV := Lib.hid (ValidSquare_c v us A w hv hN)
  rw [hl] at HV
  clear hl
  go_enter Try.func20, Try.ntmps20
  go_wp2_with fail
  refine HV.out.mono ?_
  rintro e w1 ⟨rfl, h1⟩
  go_wp2_with fail
  go_ret2
  exact IIK.no h1
theorem lit3 {w w0 : World} {L : List Ent} {vr vc vs : Value} {r c s : List Int} (h : St w0.heap.size w0 w L) (hr : RdI w0 vr r) (hc : RdI w0 vc c) (hs : RdI w0 vs s) :
    St w0.heap.size w0 (w.alloc (.cells #[vr, vc, vs] 24)) (L ++ [row 24 (.slice (some ⟨w.heap.size, 0, none⟩) 3 3) [vr, vc, vs]]) ∧ RII (w.alloc (.cells #[vr, vc, vs] 24)) (.slice (some ⟨w.heap.size, 0, none⟩) 3 3) [vr, vc, vs] [r, c, s] := by
  have h1 := h.new 24 #[vr, vc, vs] (by simp [maxLen])
  refine ⟨h1, (h1.rd L.length (by simp; rfl)), rfl, fun j hj => ?_⟩
  have k1 := h1.oldI hr
  have k2 := h1.oldI hc
  have k3 := h1.oldI hs
  rcases j with _ | _ | _ | j
  · exact k1
  · exact k2
  · exact k3
  · simp at hj; omega
noncomputable def pv3 (n : Nat) (r c s : List Int) : Bool := allP n [r, c, s]
theorem pv3_t {n : Nat} {r c s : List Int} (h : pv3 n r c s = true) : (r.length = n ∧ IsP r) ∧ (c.length = n ∧ IsP c) ∧ (s.length = n ∧ IsP s) := by
  have h0 := allP_at h (x := 0) (by simp)
  have h1 := allP_at h (x := 1) (by simp)
  have h2 := allP_at h (x := 2) (by simp)
  exact ⟨⟨h0.1, (pvB_t h0.2).2⟩, ⟨h1.1, (pvB_t h1.2).2⟩, ⟨h2.1, (pvB_t h2.2).2⟩⟩
theorem pv3_of {n : Nat} {r c s : List Int} (hn : n ≤ 32) (hr : r.length = n ∧ IsP r) (hc : c.length = n ∧ IsP c) (hs : s.length = n ∧ IsP s) : pv3 n r c s = true := by
  refine allP_of fun x hx => ?_
  rcases x with _ | _ | _ | x
  · exact ⟨hr.1, pvB_yes (by rw [show (xat [r, c, s] 0).length = r.length from rfl]; omega) hr.2⟩
  · exact ⟨hc.1, pvB_yes (by rw [show (xat [r, c, s] 1).length = c.length from rfl]; omega) hc.2⟩
  · exact ⟨hs.1, pvB_yes (by rw [show (xat [r, c, s] 2).length = s.length from rfl]; omega) hs.2⟩
  · simp at hx; omega
set_option maxHeartbeats 4000000 in
set_option maxRecDepth 100000 in
theorem Isotope_c (v vr vc vs : Value) (us : List Value) (A : List (List Int)) (r c s : List Int) (w : World) (hv : RII w v us A) (hr : RdI w vr r) (hc : RdI w vc c) (hs : RdI w vs s)
    (hl : latB A = true) (lr : r.length ≤ 1048576) (lc : c.length ≤ 1048576) (ls : s.length ≤ 1048576) :
    Calls Try.prog 20 #[v, vr, vc, vs] w (if pv3 A.length r c s = true then IIK w (isoL A r c s) 0 else IIK w [] 2) := by
  have hL := latB_t hl
  have HV := Lib.hid (ValidSquare_c v us A w hv (fun x hx => by rw [hL.len x hx]; have := hL.le; omega))
  rw [hl] at HV
  have HZ := fun W (h : RII W v us A) => Lib.hid (szII_c v us A W h)
  have HP := fun W u (h : RII W u [vr, vc, vs] [r, c, s]) => Lib.hid (arePermutations_c A.length u [vr, vc, vs] [r, c, s] W h (fun x hx => by
    rcases x with _ | _ | _ | x
    · exact lr
    · exact lc
    · exact ls
    · simp at hx; omega))
  have HL := Lib.hid hL
  have HT := Lib.hid (fun h => pv3_t (n := A.length) (r := r) (c := c) (s := s) h)
  have hp3 : allP A.length [r, c, s] = pv3 A.length r c s := rfl
  rw [hp3] at HP
  obtain ⟨ar, kr, er⟩ := hr.shq
  obtain ⟨ac, kc, ec⟩ := hc.shq
  obtain ⟨as', ks, es⟩ := hs.shq
  clear hl hL hp3 lr lc ls
  subst er
  subst ec
  subst es
  cases hp : pv3 A.length r c s
  · rw [if_neg (by decide)]
    rw [hp] at HP
    clear hp HT
    go_enter Try.func20, Try.ntmps20
    go_wp2_with fail
    refine HV.out.mono ?_
    rintro e w1 ⟨rfl, h1⟩
    have hlit := lit3 h1 hr hc hs
    go_wp2_with (first
      | (go_at_call 73; refine (HP _ _ hlit.2).out.mono ?_; rintro e w3 ⟨rfl, h3⟩; have hS3 := hlit.1.call0 h3)
      | (go_at_call 74; refine (HZ _ (h1.oldII hv)).out.mono ?_; rintro e w2 ⟨rfl, rfl⟩))
    go_ret2
    exact IIK.no hS3
  · rw [if_pos rfl]
    have hT := HT.out hp
    have HI := fun W (a : RII W v us A) b c' d => Lib.hid (isotope_c v (.slice ar r.length kr) (.slice ac c.length kc) (.slice as' s.length ks) us A r c s W a b c' d HL.out.sq0 hT.1.2 hT.2.1.2 hT.1.1 hT.2.1.1 hT.2.2.1 (by have := HL.out.le; omega))
    rw [hp] at HP
    clear hp HT hT
    go_enter Try.func20, Try.ntmps20
    go_wp2_with fail
    refine HV.out.mono ?_
    rintro e w1 ⟨rfl, h1⟩
    have hlit := lit3 h1 hr hc hs
    go_wp2_with (first
      | (have hz := hS3; clear hz; go_at_call 75; refine (HI _ (hS3.oldII hv) (hS3.oldI hr) (hS3.oldI hc) (hS3.oldI hs)).out.mono ?_; rintro e w4 ⟨o, uo, rfl, hlo, h4⟩; have hS4 := hS3.call h4; have Hlo := Lib.hid hlo; clear hlo h4)
      | (go_at_call 73; refine (HP _ _ hlit.2).out.mono ?_; rintro e w3 ⟨rfl, h3⟩; have hS3 := (hlit.1.call0 h3).out)
      | (go_at_call 74; refine (HZ _ (h1.oldII hv)).out.mono ?_; rintro e w2 ⟨rfl, rfl⟩))
    go_ret2
    exact ⟨o, uo, rfl, Hlo.out, hS4⟩
theorem Isotope_yes (v vr vc vs : Value) (us : List Value) (A : List (List Int)) (r c s : List Int) (w : World) (hv : RII w v us A) (hr : RdI w vr r) (hc : RdI w vc c) (hs : RdI w vs s)
    (hl : latB A = true) (lr : r.length ≤ 1048576) (lc : c.length ≤ 1048576) (ls : s.length ≤ 1048576) (hp : pv3 A.length r c s = true) :
    Calls Try.prog 20 #[v, vr, vc, vs] w (IIK w (isoL A r c s) 0) := by
  have := Isotope_c v vr vc vs us A r c s w hv hr hc hs hl lr lc ls
  rwa [if_pos hp] at this
theorem Isotope_no2 (v vr vc vs : Value) (us : List Value) (A : List (List Int)) (r c s : List Int) (w : World) (hv : RII w v us A) (hr : RdI w vr r) (hc : RdI w vc c) (hs : RdI w vs s)
    (hl : latB A = true) (lr : r.length ≤ 1048576) (lc : c.length ≤ 1048576) (ls : s.length ≤ 1048576) (hp : pv3 A.length r c s = false) :
    Calls Try.prog 20 #[v, vr, vc, vs] w (IIK w [] 2) := by
  have := Isotope_c v vr vc vs us A r c s w hv hr hc hs hl lr lc ls
  rwa [if_neg (by rw [hp]; decide)] at this
end Go.Proofs.Ytpfgbbbjldpnnaa
