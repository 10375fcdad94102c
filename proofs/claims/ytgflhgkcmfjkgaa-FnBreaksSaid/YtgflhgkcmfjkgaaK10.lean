/- The texts of this claim, run 10: Br7 LBrk Prf PFnBreaks. -/
import Derived.Test.YtgflhgkcmfjkgaaK4
import Derived.Test.YtgflhgkcmfjkgaaK7
import Derived.Test.YtgflhgkcmfjkgaaK8
import Derived.Test.YtgflhgkcmfjkgaaK9
import Derived.ProofKit
import Derived.OpenShut
import Derived.ShutString
import Derived.ChangeOld
import Derived.Below
section
/- Walk: rounds and home teams that are drawn. -/
namespace Go.Proofs.Ytgflhgkcmfjkgaa
set_option linter.unusedSimpArgs false
set_option linter.unusedVariables false
open Go.RowKit
attribute [local go_sem ↓] Go.wp_at_zero Go.wp_at_succ

def MakesCB (w : World) (e : Ending) (w' : World) : Prop := ∃ (n : Int) (v : Value) (vs : List Value) (uss : List (List Value)) (R : List (List (List Int))) (vh : Value) (uh : List Value) (H : List (List Int)), e = .returned (.tuple #[.int .i64 n, v, vh]) ∧ RIII w' v vs uss R ∧ RII w' vh uh H ∧ R.length ≤ 1000 ∧ St w.heap.size w w' []
/-- homes of any kind, of bounded sizes -/
def HmB (H : List (List Int)) : Prop := H.length ≤ 40 ∧ ∀ r ∈ H, r.length ≤ 41
set_option maxHeartbeats 16000000 in
set_option maxRecDepth 100000 in
theorem DrawCountBreaks_c (w : World) (cv : Value) (bs : List UInt8) (hb : RdB w cv bs) : Calls Try.prog 18 #[cv] w (MakesCB w) := by
  go_enter Try.func18, Try.ntmps18
  go_wp2_with fail
  refine (l00From_c w cv bs hb).mono ?_
  rintro e w1 ⟨rfl, h1⟩
  obtain ⟨g, hg⟩ : ∃ g, w.heap.size = g := ⟨_, rfl⟩
  have h1' : Src w w1 cv g 0 [] := by rw [← hg]; exact h1
  rw [hg]
  clear h1 hg
  go_wp2_with fail
  refine (l14DrawRounds_c w _ cv bs g _ hb h1' (by omega)).mono ?_
  rintro e w2 ⟨n, v, vs, uss, X, rfl, hf, hX, n0, n1, h2⟩
  have hf := Lib.hid hf
  have HX := Lib.hid hX
  have rv := St.riii (L2 := []) (by rw [List.append_nil]; exact h2.st) hf.out
  have hlv := rv.len
  have hlev := rv.le
  have hxv := rv.ixe
  have h3 := h2.empII
  have h3 : Src w _ cv g _ (own2 (.slice (some ⟨w2.heap.size, 0, none⟩) 0 0) [] [] ++ own3 v vs uss X) := h3
  obtain ⟨LX, hLX⟩ : ∃ LX, X.length = LX := ⟨_, rfl⟩
  rw [hLX] at hlv hlev hxv
  have HLX := Lib.hid hLX
  have hLXb : LX ≤ 40 := by have := hX.1; omega
  clear h1' h2 hX rv hLX
  go_wp2_with fail
  go_loopw [9, 8, 10, 11, 12] (fun r o _ _ _ wr => ∃ (k : Nat) (uh : List Value) (H : List (List Int)), k ≤ LX ∧ r = .int .i64 k ∧ Hid (uh.length = H.length ∧ H.length = k ∧ ∀ x ∈ H, x.length ≤ 41) ∧ Src w wr cv g (500 + 100 * k) (own2 o uh H ++ own3 v vs uss X)) (fun r _ _ _ _ _ => LX - (intOf r).toNat)
  case atStart => exact ⟨0, [], [], by omega, rfl, ⟨rfl, rfl, fun x hx => (by cases hx)⟩, h3.mono (by omega)⟩
  case round =>
    clear h3
    obtain ⟨k, uh, H, hk, rfl, hI, hS⟩ := hrel
    by_cases hlt : k < LX
    · have hB := hS.empI
      have rv := St.riii (L2 := []) (by rw [List.append_nil]; exact hS.st.sub (List.sublist_append_right _ _)) hf.out
      have hlr := (rv.row k (by rw [HLX.out]; exact hlt)).len
      have hler := (rv.row k (by rw [HLX.out]; exact hlt)).le
      have hxr := (rv.row k (by rw [HLX.out]; exact hlt)).ixe
      have hq41 := HX.out.2 _ (x3at_mem (show k < X.length by rw [HLX.out]; exact hlt))
      have xk := hxv (k : Int) k rfl hlt
      clear hS rv
      go_wp2_with fail
      go_loopw [11, 10, 12] (fun ii l _ wx => ∃ (i : Nat) (rs : List Int), i ≤ (x3at X k).length ∧ ii = .int .i64 i ∧ Hid (rs.length ≤ i) ∧ Src w wx cv g (500 + 100 * k + 2 * i) (row 2 l (iv rs) :: (own2 u8 uh H ++ own3 v vs uss X))) (fun ii _ _ _ => (x3at X k).length - (intOf ii).toNat)
      case atStart => exact ⟨0, [], by omega, rfl, by simp [Hid], hB.mono (by omega)⟩
      case round =>
        clear hB
        obtain ⟨i, rs, hi, rfl, hl, hS⟩ := hrel
        have rv := St.riii (L2 := []) (by rw [List.append_nil]; exact hS.st.sub ((List.sublist_append_right _ _).cons _)) hf.out
        have ck := rv.cell k (by rw [HLX.out]; exact hlt)
        have rr := rv.row k (by rw [HLX.out]; exact hlt)
        by_cases hit : i < (x3at X k).length
        · have ci := rr.cell i hit
          have xi := hxr (i : Int) i rfl hit
          have rp := rr.row i hit
          have hlp := rp.len
          have hlep := rp.le
          have hxp := rp.ixe
          by_cases h2l : (xat (x3at X k) i).length = 2
          · have hN := Lib.hid (show rs.length < 4294967296 by have := hl.out; omega)
            have g2 : (((xat (x3at X k) i).length : Int) == 2) = true := eq_t (by omega)
            go_wp2_with fail
            refine (pick_c w _ cv bs g _ _ 2 hb hS (by omega)).mono ?_
            rintro e w5 ⟨z, z0, z1, rfl, h5⟩
            obtain ⟨zz, hzz⟩ := Int.eq_ofNat_of_zero_le z0
            subst hzz
            have hz2 : zz < (xat (x3at X k) i).length := by omega
            have rv2 := St.riii (L2 := []) (by rw [List.append_nil]; exact h5.st.sub ((List.sublist_append_right _ _).cons _)) hf.out
            have cz := ((rv2.row k (by rw [HLX.out]; exact hlt)).row i hit).cell zz hz2
            have xz := hxp (zz : Int) zz rfl hz2
            obtain ⟨pp, ss, s0, s1, hT⟩ := h5
            have HPS := Lib.hid (And.intro s0 s1)
            clear hS rv rr rp z0 z1 rv2 s0 s1 h2l g2
            go_wp2_with (at_builtin; refine appI hT 1 rfl hN.out rfl _ _ rfl rfl _ rfl ?_; intro v7 w7 hS7; simp only [List.set_cons_succ, List.set_cons_zero] at hS7)
            go_roundw
            case rel => exact ⟨i + 1, _, by omega, by go_num, by have := hl.out; simp [Hid]; omega, pp, ss, HPS.out.1, by have := HPS.out.2; omega, hS7⟩
            case measure => simp [intOf]; omega
          · have g2 : (((xat (x3at X k) i).length : Int) == 2) = false := eq_f (by omega)
            go_wp2_with fail
            go_roundw
            case rel => exact ⟨i + 1, rs, by omega, by go_num, by have := hl.out; simp [Hid]; omega, hS.mono (by omega)⟩
            case measure => simp [intOf]; omega
        · obtain rfl : i = (x3at X k).length := by omega
          obtain ⟨pp, ss, s0, s1, hT⟩ := hS
          have HPS := Lib.hid (And.intro s0 s1)
          obtain ⟨la, lc, hle⟩ := (hT.rdI 1 rfl).sl.sh
          rw [iv_len] at hle
          subst hle
          have hul := Lib.hid (show uh.length < 4294967296 by rw [hI.out.1, hI.out.2.1]; omega)
          have hrs := Lib.hid (show rs.length ≤ 41 by have := hl.out; omega)
          clear s0 s1 rv rr
          go_wp2_with (at_builtin; refine appII hT 2 rfl hul.out rfl _ _ rfl rfl _ rfl rfl ?_; intro v8 w8 hS8; simp only [List.set_cons_succ] at hS8)
          go_roundw
          case rel =>
            refine ⟨k + 1, uh ++ [.slice la rs.length lc], H ++ [rs], by omega, by go_num, ⟨by simp [hI.out.1], by rw [List.length_append, hI.out.2.1]; rfl, fun x hx => ?_⟩, pp, ss, HPS.out.1, by have := HPS.out.2; omega, ?_⟩
            · rcases List.mem_append.1 hx with hx | hx
              · exact hI.out.2.2 x hx
              · rw [List.mem_singleton.1 hx]; exact hrs.out
            · rw [own2, rowsI_app hI.out.1]
              have h9 : St w.heap.size w w8 (box 101 g [cv, .int .i64 pp, .int .u64 ss] :: row 2 (.slice la rs.length lc) (iv rs) :: row 30 v8 (uh ++ [.slice la rs.length lc]) :: (rowsI uh H ++ own3 v vs uss X)) := hS8
              exact h9.perm (by (try simp only [own2, List.cons_append, List.nil_append, List.append_nil]); classical exact List.perm_iff_count.2 (fun a => by simp only [List.cons_append, List.nil_append, List.append_nil, List.count_append, List.count_cons, List.count_nil] <;> omega))
          case measure => simp [intOf]; omega
    · obtain rfl : k = LX := by omega
      have hlH := Lib.hid hI.out.1
      have HH : Hid (HmB H) := Lib.hid ⟨by rw [hI.out.2.1]; omega, hI.out.2.2⟩
      clear hI
      go_wp2_with fail
      refine (one_c w _ cv bs g _ _ 3 hb hS (by omega)).mono ?_
      rintro e w5 ⟨b3, rfl, h5⟩
      clear hS
      cases b3
      case false =>
        have hS := h5
        clear h5
        go_wp2_with fail
        have hln := (St.rii (hS.st.sub (List.sublist_append_left _ _)) hlH.out).len
        refine (one_c w _ cv bs g _ _ 8 hb hS (by omega)).mono ?_
        rintro e wA ⟨b8, rfl, hA⟩
        clear hS
        obtain ⟨LH, hLH⟩ : ∃ LH, H.length = LH := ⟨_, rfl⟩
        rw [hLH] at hln
        have HLH := Lib.hid hLH
        have hLHb : LH ≤ 40 := by have := HH.out.1; omega
        clear hLH
        cases b8
        case false =>
          have rH := (hA.st.sub (List.sublist_append_left _ _)).rii hlH.out
          have rR := St.riii (L2 := []) (by rw [List.append_nil]; exact hA.st.sub (List.sublist_append_right _ _)) hf.out
          have hO := hA.st.out
          go_wp2_with fail
          go_ret3
          exact ⟨n, _, vs, uss, X, _, uh, H, rfl, rR, rH, by have := HX.out.1; omega, hO⟩
        case true =>
          by_cases hH0 : 0 < LH
          case neg =>
            obtain rfl : LH = 0 := by omega
            have rH := (hA.st.sub (List.sublist_append_left _ _)).rii hlH.out
            have rR := St.riii (L2 := []) (by rw [List.append_nil]; exact hA.st.sub (List.sublist_append_right _ _)) hf.out
            have hO := hA.st.out
            go_wp2_with fail
            go_ret3
            exact ⟨n, _, vs, uss, X, _, uh, H, rfl, rR, rH, by have := HX.out.1; omega, hO⟩
          case pos =>
            cases H with
            | nil => have := HLH.out; simp at this; omega
            | cons r0 H =>
              cases uh with
              | nil => have := hlH.out; simp at this
              | cons a0 uh =>
                obtain ⟨pp, ss, s0, s1, hT⟩ := hA
                have hT : St w.heap.size w wA (box 101 g [cv, .int .i64 pp, .int .u64 ss] :: row 30 u8 (a0 :: uh) :: row 2 a0 (iv r0) :: (rowsI uh H ++ own3 v vs uss X)) := hT
                have c0 : wA.cell? (el u8 0) = some a0 := (hT.rd 1 (e := 30) rfl).cell (i := 0) (by simp)
                have rH0 := hT.sub (L' := own2 u8 (a0 :: uh) (r0 :: H)) (((List.sublist_append_left _ _).cons_cons _).cons_cons _ |>.cons _)
                have x0 := (rH0.rii hlH.out).ixe (0 : Int) 0 rfl (by simp)
                have Hr0 := Lib.hid (show r0.length < 4294967296 by have := HH.out.2 r0 (by simp); omega)
                have Hl2 := Lib.hid (show uh.length = H.length by have := hlH.out; simpa using this)
                have hHi : (0 : Int) < (LH : Int) := by omega
                clear s0 s1 rH0
                go_wp2_with (first
                  | (refine stoII hS7 1 rfl 0 (by simp) rfl _ _ rfl rfl v7 s7.cells s7.one rfl ?_; intro w8 hS8)
                  | (at_builtin; refine appI hT 2 rfl Hr0.out rfl _ _ rfl rfl _ rfl ?_; intro v7 w7 hS7; have s7 := (hS7.rdI 2 rfl).sl))
                have hS9 : St w.heap.size w w8 (box 101 g [cv, .int .i64 pp, .int .u64 ss] :: (own2 u8 (v7 :: uh) ((r0 ++ [0]) :: H) ++ own3 v vs uss X)) := hS8
                have rH := (hS9.sub ((List.sublist_append_left _ _).cons _)).rii (by simp [Hl2.out])
                have rR := St.riii (L2 := []) (by rw [List.append_nil]; exact hS9.sub ((List.sublist_append_right _ _).cons _)) hf.out
                have hO := hS9.out
                go_wp2_with fail
                go_ret3
                exact ⟨n, _, vs, uss, X, _, _, _, rfl, rR, rH, by have := HX.out.1; omega, hO⟩
      case true =>
        go_wp2_with fail
        refine (pick_c w _ cv bs g _ _ 5 hb h5 (by omega)).mono ?_
        rintro e w6 ⟨z, z0, z1, rfl, h6⟩
        obtain ⟨m, hm⟩ : ∃ m : Nat, 2 + 2 * z = m := ⟨(2 + 2 * z).toNat, by omega⟩
        have hm2 : 2 ≤ m ∧ m ≤ 32 ∧ m % 2 = 0 := by omega
        have wz : IntKind.i64.wrap (2 * z) = 2 * z := IntWalk.i64_in _ (by omega)
        have h6' : Src w w6 cv g _ [] := h6.sub (List.nil_sublist _)
        clear h5 h6 hf HX hlH HH
        go_wp2_with fail
        try rw [hm]
        refine (l14Rounds_c m _ hm2.1 hm2.2.1).mono ?_
        rintro e w7 ⟨v2, vs, uss, X, rfl, hf2, hX2, hXl2, h7⟩
        have h7s := h6'.call h7
        have hf := Lib.hid hf2
        have HX : Hid (RdsB X) := Lib.hid ⟨by omega, fun q hq => by have := (hX2 q hq).2; omega⟩
        clear h7 hf2 hX2 hXl2 h6' z0 z1
        go_wp2_with fail
        try rw [hm]
        refine (sHomeTeams_c m _ hm2.1 hm2.2.1 hm2.2.2).mono ?_
        rintro e w8 ⟨v3, uh, H, c3, rfl, hl3, hHl3, hHr3, h8⟩
        have hS := (h7s.call h8).perm (L' := own2 v3 uh H ++ own3 v2 vs uss X) (by rw [List.nil_append]; exact List.perm_append_comm)
        have hlH := Lib.hid hl3
        have HH : Hid (HmB H) := Lib.hid ⟨hHl3, fun r hr => by have := hHr3 r hr; omega⟩
        clear h7s h8 hl3 hHl3 hHr3
        go_wp2_with fail
        have hln := (St.rii (hS.st.sub (List.sublist_append_left _ _)) hlH.out).len
        refine (one_c w _ cv bs g _ _ 8 hb hS (by omega)).mono ?_
        rintro e wA ⟨b8, rfl, hA⟩
        clear hS
        obtain ⟨LH, hLH⟩ : ∃ LH, H.length = LH := ⟨_, rfl⟩
        rw [hLH] at hln
        have HLH := Lib.hid hLH
        have hLHb : LH ≤ 40 := by have := HH.out.1; omega
        clear hLH
        cases b8
        case false =>
          have rH := (hA.st.sub (List.sublist_append_left _ _)).rii hlH.out
          have rR := St.riii (L2 := []) (by rw [List.append_nil]; exact hA.st.sub (List.sublist_append_right _ _)) hf.out
          have hO := hA.st.out
          go_wp2_with fail
          go_ret3
          exact ⟨_, _, vs, uss, X, _, uh, H, rfl, rR, rH, by have := HX.out.1; omega, hO⟩
        case true =>
          by_cases hH0 : 0 < LH
          case neg =>
            obtain rfl : LH = 0 := by omega
            have rH := (hA.st.sub (List.sublist_append_left _ _)).rii hlH.out
            have rR := St.riii (L2 := []) (by rw [List.append_nil]; exact hA.st.sub (List.sublist_append_right _ _)) hf.out
            have hO := hA.st.out
            go_wp2_with fail
            go_ret3
            exact ⟨_, _, vs, uss, X, _, uh, H, rfl, rR, rH, by have := HX.out.1; omega, hO⟩
          case pos =>
            cases H with
            | nil => have := HLH.out; simp at this; omega
            | cons r0 H =>
              cases uh with
              | nil => have := hlH.out; simp at this
              | cons a0 uh =>
                obtain ⟨pp, ss, s0, s1, hT⟩ := hA
                have hT : St w.heap.size w wA (box 101 g [cv, .int .i64 pp, .int .u64 ss] :: row 30 v3 (a0 :: uh) :: row 2 a0 (iv r0) :: (rowsI uh H ++ own3 v2 vs uss X)) := hT
                have c0 : wA.cell? (el v3 0) = some a0 := (hT.rd 1 (e := 30) rfl).cell (i := 0) (by simp)
                have rH0 := hT.sub (L' := own2 v3 (a0 :: uh) (r0 :: H)) (((List.sublist_append_left _ _).cons_cons _).cons_cons _ |>.cons _)
                have x0 := (rH0.rii hlH.out).ixe (0 : Int) 0 rfl (by simp)
                have Hr0 := Lib.hid (show r0.length < 4294967296 by have := HH.out.2 r0 (by simp); omega)
                have Hl2 := Lib.hid (show uh.length = H.length by have := hlH.out; simpa using this)
                have hHi : (0 : Int) < (LH : Int) := by omega
                clear s0 s1 rH0
                go_wp2_with (first
                  | (refine stoII hS7 1 rfl 0 (by simp) rfl _ _ rfl rfl v7 s7.cells s7.one rfl ?_; intro w8 hS8)
                  | (at_builtin; refine appI hT 2 rfl Hr0.out rfl _ _ rfl rfl _ rfl ?_; intro v7 w7 hS7; have s7 := (hS7.rdI 2 rfl).sl))
                have hS9 : St w.heap.size w w8 (box 101 g [cv, .int .i64 pp, .int .u64 ss] :: (own2 v3 (v7 :: uh) ((r0 ++ [0]) :: H) ++ own3 v2 vs uss X)) := hS8
                have rH := (hS9.sub ((List.sublist_append_left _ _).cons _)).rii (by simp [Hl2.out])
                have rR := St.riii (L2 := []) (by rw [List.append_nil]; exact hS9.sub ((List.sublist_append_right _ _).cons _)) hf.out
                have hO := hS9.out
                go_wp2_with fail
                go_ret3
                exact ⟨_, _, vs, uss, X, _, _, _, rfl, rR, rH, by have := HX.out.1; omega, hO⟩
end Go.Proofs.Ytgflhgkcmfjkgaa
end

section
/- The law FnBreaks, walked. -/
namespace Go.Proofs.Ytgflhgkcmfjkgaa
set_option linter.unusedSimpArgs false
set_option linter.unusedVariables false
open Go.RowKit
attribute [local go_sem ↓] Go.wp_at_zero Go.wp_at_succ

theorem DrawHomeTeams_c (w : World) (cv : Value) (bs : List UInt8) (hb : RdB w cv bs) : Calls Try.prog 15 #[cv] w fun e w' => ∃ q : Int, e = .returned (.int .i64 q) ∧ -1 ≤ q ∧ q ≤ 40 ∧ St w.heap.size w w' [] := by
  go_enter Try.func15, Try.ntmps15
  go_wp2_with fail
  refine (l00From_c w cv bs hb).mono ?_
  rintro e w1 ⟨rfl, h1⟩
  go_wp2_with fail
  refine (pick_c w _ cv bs _ _ _ 36 hb h1 (by omega)).mono ?_
  rintro e w2 ⟨x, x0, x1, rfl, h2⟩
  have hS := h2.st
  have hx : x ≤ 35 := by omega
  clear h1 h2 x1
  go_wp2_with fail
  go_ret
  exact ⟨_, rfl, by omega, by omega, hS.out⟩
set_option maxHeartbeats 16000000 in
set_option maxRecDepth 100000 in
theorem FnBreaks_law (w : World) (cv : Value) (bs : List UInt8) (hb : RdB w cv bs) :
    Calls Try.prog 4 #[cv] w (GivesB w true) := by
  by_cases hlong : 1048576 < bs.length
  · have hl' : decide (1048576 < bs.length) = true := by simpa using hlong
    go_enter Try.func4, Try.ntmps4
    go_wp2_with fail
    refine (b10Long_c w cv bs hb).mono ?_
    rw [hl']
    rintro e w1 ⟨rfl, rfl⟩
    go_wp2_with fail
    go_ret
    exact ⟨rfl, St.refl _⟩
  have hl' : decide (1048576 < bs.length) = false := by simpa using hlong
  go_enter Try.func4, Try.ntmps4
  go_wp2_with fail
  refine (b10Long_c w cv bs hb).mono ?_
  rw [hl']
  rintro e w1 ⟨rfl, rfl⟩
  go_wp2_with fail
  refine (DrawHomeTeams_c w cv bs hb).mono ?_
  rintro e w1 ⟨n, rfl, n0, n1, h1⟩
  have rb := hb.keep h1.below
  have hT := h1
  clear h1 hlong hl' hb
  by_cases hbad : ¬ (2 ≤ n ∧ n ≤ 32) ∨ n % 2 ≠ 0
  · have K1 := Lib.hid (HomeTeams_no n w1 hbad)
    by_cases hn : n < 2
    · clear hbad
      go_wp2_with fail
      refine K1.out.mono ?_
      rintro e w2 ⟨rfl, h2⟩
      go_wp2_with fail
      go_ret
      exact ⟨rfl, (hT.call0 h2).out⟩
    · by_cases hn2 : 32 < n
      · clear hbad
        go_wp2_with fail
        refine K1.out.mono ?_
        rintro e w2 ⟨rfl, h2⟩
        go_wp2_with fail
        go_ret
        exact ⟨rfl, (hT.call0 h2).out⟩
      · have hodd : n % 2 = 1 := by
          rcases hbad with h | h
          · exact absurd ⟨by omega, by omega⟩ h
          · omega
        have q0 : n.tmod 2 = 1 := by rw [Int.tmod_eq_emod_of_nonneg (by omega)]; exact hodd
        have g1 : (n % 2 == 1) = true := eq_t hodd
        clear hbad
        go_wp2_with fail
        refine K1.out.mono ?_
        rintro e w2 ⟨rfl, h2⟩
        go_wp2_with fail
        go_ret
        exact ⟨rfl, (hT.call0 h2).out⟩
  · have hin : 2 ≤ n ∧ n ≤ 32 := Classical.byContradiction fun h => hbad (.inl h)
    have hev : n % 2 = 0 := Classical.byContradiction fun h => hbad (.inr h)
    obtain ⟨m, rfl⟩ := Int.eq_ofNat_of_zero_le (show 0 ≤ n by omega)
    have m2 : 2 ≤ m ∧ m ≤ 32 ∧ m % 2 = 0 := by omega
    have K1 := Lib.hid (HomeTeams_c m w1 m2.1 m2.2.1 m2.2.2)
    have K2 := fun W => Lib.hid (RoundRobin_c m W m2.1 m2.2.1)
    have HV := Lib.hid (rr_vs m2.1 m2.2.1)
    have HO := Lib.hid (hm_ok m2.2.2 m2.1 m2.2.1)
    have HB := Lib.hid (hm_breaks m2.2.2 m2.1 m2.2.1)
    have HL := Lib.hid (rrL_len' m2.2.2)
    have HLl : Hid ((rrL m).length ≤ 1000) := Lib.hid (by rw [HL.out]; omega)
    clear hbad hin hev n0 n1
    generalize rrL m = R at *
    generalize hmH m = H at *
    go_wp2_with fail
    refine K1.out.mono ?_
    clear K1
    rintro e w2 ⟨vh, uh, rfl, hlh, h2⟩
    have rh := h2.rii hlh
    have rb := rb.keep h2.below
    have hT := (hT.call0 h2.out).out
    clear h2 hlh
    go_wp2_with fail
    refine (K2 _).out.mono ?_
    clear K2
    rintro e w3 ⟨v, vs, uss, rfl, hf, h3⟩
    have rv := MkIII.riii hf h3
    have rb := rb.keep h3.below
    have rh := rh.keep h3.below
    have hT := (hT.call0 h3.out).out
    clear h3 hf
    have KC := Lib.hid (CountBreaks_c m v vh vs uss R uh H w3 rv rh HLl.out)
    go_wp2_with fail
    refine KC.out.mono ?_
    clear KC
    rintro e w4 ⟨b, c, rfl, h4, hc1, hc2⟩
    obtain rfl : c = 0 := hc2 m rfl HV.out HO.out
    have hbm : b = (m : Int) - 2 := by
      obtain ⟨m', e1, _, _, e2⟩ := hc1 rfl
      obtain rfl : m = m' := by omega
      rw [e2, HL.out, show m - 1 - 1 = m - 2 by omega, HB.out]; omega
    subst hbm
    have rb := rb.keep h4.below
    have hT := (hT.call0 h4).out
    have f1 : (((m : Int) - 2) != ((m : Int) - 2)) = false := ne_f rfl
    clear h4 hc1 hc2 rv rh
    go_wp2_with fail
    refine (DrawCountBreaks_c w4 cv bs rb).mono ?_
    rintro e w5 ⟨n2, v2, vs2, uss2, R2, vh2, uh2, H2, rfl, rv2, rh2, hR2, h5⟩
    have hT := (hT.call0 h5).out
    have KC := Lib.hid (CountBreaks_c n2 v2 vh2 vs2 uss2 R2 uh2 H2 w5 rv2 rh2 hR2)
    have hln := rv2.len
    clear h5 rb
    go_wp2_with fail
    refine KC.out.mono ?_
    clear KC
    rintro e w6 ⟨b2, c2, rfl, h6, hc1, -⟩
    have hT := (hT.call0 h6).out
    clear h6
    by_cases hc0 : c2 = 0
    · subst hc0
      obtain ⟨k, rfl, hV2, hO2, rfl⟩ := hc1 rfl
      have HV2 := Lib.hid hV2
      have HO2 := Lib.hid hO2
      have hk2 := hV2.n2
      have hk32 := hV2.n32
      have hbk := brF_le k R2 H2 (R2.length - 1)
      have hbk2 : (R2.length - 1) * k ≤ 1000 * 32 := Nat.mul_le_mul (by omega) hk32
      clear hc1 hV2 hO2 rv2 rh2
      have hpar : ((k : Int) % 2 == 1) = true ∨ ((k : Int) % 2 == 1) = false := by
        by_cases e : (k : Int) % 2 = 1
        · exact .inl (eq_t e)
        · exact .inr (eq_f e)
      rcases hpar with g1 | g1
      · go_wp2_with fail
        go_ret
        exact ⟨rfl, hT⟩
      · by_cases hlen : (R2.length : Int) = (k : Int) - 1
        · have g2 : ((R2.length : Int) != (k : Int) - 1) = false := ne_f hlen
          have hge : (k : Int) - 2 ≤ (brF k R2 H2 (R2.length - 1) : Nat) := by
            have := HV2.out.breaks HO2.out (by omega)
            omega
          generalize brF k R2 H2 (R2.length - 1) = bb at *
          clear hlen
          go_wp2_with fail
          go_ret
          exact ⟨rfl, hT⟩
        · have g2 : ((R2.length : Int) != (k : Int) - 1) = true := ne_t hlen
          clear hlen
          go_wp2_with fail
          go_ret
          exact ⟨rfl, hT⟩
    · have f2 : (c2 != 0) = true := ne_t hc0
      clear hc1
      go_wp2_with fail
      go_ret
      exact ⟨rfl, hT⟩
end Go.Proofs.Ytgflhgkcmfjkgaa
end

section
/- How arguments that come in read. How bytes that come in read. -/
namespace Go.Proofs.Ytgflhgkcmfjkgaa
set_option linter.unusedSimpArgs false
set_option linter.unusedVariables false
open Go.RowKit


/-- what came in as a slice of integers: nothing, or a row of numbers that fit -/
def IsRow (k : IntKind) (w : World) (a : Option Addr) (len cap : Nat) (zs : List Int) : Prop :=
  (a = none ∧ len = 0 ∧ cap = 0 ∧ zs = []) ∨
  ∃ x, a = some x ∧ len ≤ cap ∧ cap ≤ maxLen ∧ zs.length = cap ∧ (∀ i, i < zs.length → w.cell? (x.add i) = some (.int k (zs.getD i 0))) ∧ ∀ n ∈ zs, (Lit.int k n).wf = true

theorem IsRow.rd {k : IntKind} {w : World} {a : Option Addr} {len cap : Nat} {zs : List Int} (h : IsRow k w a len cap zs) : Rd w (.slice a len cap) ((zs.take len).map (Value.int k)) := by
  rcases h with ⟨rfl, rfl, rfl, rfl⟩ | ⟨x, rfl, h1, h2, h3, h4, h5⟩
  · exact Rd.nil w
  · have hl : ((zs.take len).map (Value.int k)).length = len := by simp; omega
    refine ⟨⟨some x, cap, by rw [hl], by omega, h2, .inr (by simp)⟩, ?_⟩
    intro i u hu
    have hi : i < len := by have := (List.getElem?_eq_some_iff.1 hu).1; omega
    have := h4 i (by omega)
    simp only [List.getElem?_map, List.getElem?_take, hi, if_true] at hu
    rw [List.getElem?_eq_getElem (by omega)] at hu
    simp at hu
    simp only [el]
    rw [this, ← hu]
    simp [List.getD, List.getElem?_eq_getElem (show i < zs.length by omega)]


theorem IsRow.rdB {w : World} {a : Option Addr} {len cap : Nat} {zs : List Int} (h : IsRow .u8 w a len cap zs) : ∃ bs, RdB w (.slice a len cap) bs := by
  refine ⟨(zs.take len).map fun n => UInt8.ofNat n.toNat, ?_⟩
  have h1 := h.rd
  have hw : ∀ n ∈ zs, 0 ≤ n ∧ n ≤ 255 := by
    rcases h with ⟨_, _, _, rfl⟩ | ⟨_, _, _, _, _, _, h5⟩
    · simp
    · intro n hn; have := h5 n hn; simpa [Lit.wf, IntKind.min, IntKind.max, IntKind.signed, IntKind.bits] using this
  unfold RdB bv
  rw [List.map_map]
  rw [List.map_congr_left (g := Value.int .u8)]
  · exact h1
  · intro n hn
    have := hw n (List.mem_of_mem_take hn)
    simp only [Function.comp]
    congr 1
    rw [UInt8.toNat_ofNat']
    omega

end Go.Proofs.Ytgflhgkcmfjkgaa
end

section
/- FnBreaks holds: for every input the call returns true and leaves its arguments as they are. No condition. -/
namespace Go.Proofs.Ytgflhgkcmfjkgaa.fnBreaks
set_option linter.unusedSimpArgs false
set_option linter.unusedVariables false
open Go.ChangeShapes Go.WideShapes Go.ChangeAt Go.RowKit
set_option linter.unusedVariables false

theorem own : ownKnob Try.prog.godebug = none := by kernel_rfl
theorem laidOut : laidOutB Try.prog = true := by kernel_rfl

set_option maxRecDepth 100000 in
theorem lifted (os : Os) (started : os.Started) (H : Type) (enc : TypeId × Value → H) :
    ReturnsInHanded {} Try.checked os 4 .any (Rows.fnBreaksSpec.pre6 enc Try.prog Try.f4 Rows.fnBreaksRow.domain false) (Rows.fnBreaksSpec.post enc Try.prog Try.f4 false true false false) := by
  refine returnsInHanded_of_change (C := Try.checked) own started (by kernel_rfl) Try.func4
    (ChangeSpec.witness6 (enc := enc) (C := Try.checked) false ⟨#[], #[.slice none 0 0], []⟩ 8 (by kernel_rfl) (by kernel_rfl) (by kernel_rfl) (by kernel_rfl)) ?_
  intro W base args ds gs before hval0 hW hcnd _
  have hval : ∀ (j : Nat) t v, Try.f4.params[j]? = some t → args[j]? = some v → Value.okWide Try.prog W .any base t v := hval0
  have hW' := hW
  obtain ⟨p, q, hA0, hV, rfl, hfz, hnd⟩ := hW
  have hA : DataW.TrodAll enc Try.prog W 0 (fun _ => true) true Try.f4.params.toList args.toList ds p := hA0
  rw [Try.params4] at hA hval
  obtain ⟨v0, vs0, d0, ds0, p0, q0, hargs, rfl, rfl, h0, r0⟩ := trodAll_cons hA
  obtain ⟨rfl, rfl, rfl⟩ := trodAll_nil r0
  obtain rfl : args = #[v0] := by cases args; simp_all
  obtain ⟨rfl, rfl⟩ := trodVars_none hV
  obtain ⟨a0, len0, cap0, rfl⟩ := okWide_slice Try.underlying22 (hval 0 22 v0 rfl rfl)
  have k0 := h0
  have lt0 : ∀ x ∈ p0, x.block < W.heap.size := by obtain ⟨m, hm⟩ := k0; exact DataW.trod_lt m _ _ _ hm
  obtain ⟨bs0, rd0⟩ : ∃ bs, RdB W (.slice a0 len0 cap0) bs := by
    obtain ⟨fuel, hf⟩ := h0
    rcases open_ints Try.underlying22 Try.underlying5 (by kernel_rfl) hf with ⟨hcs, _⟩ | ⟨x, l, c, zs, hcs, _, hl, hm, hz, _, hcell, hwz⟩
    · simp [Value.cells] at hcs
      obtain ⟨rfl, rfl, rfl⟩ := hcs
      exact IsRow.rdB (zs := []) (.inl ⟨rfl, rfl, rfl, rfl⟩)
    · simp [Value.cells] at hcs
      obtain ⟨rfl, rfl, rfl⟩ := hcs
      exact IsRow.rdB (zs := zs) (.inr ⟨_, rfl, hl, hm, by simpa using hz, hcell, hwz⟩)
  clear hA0 hval0
  refine (FnBreaks_law W _ bs0 rd0).mono fun e W' ⟨he, hst⟩ => ?_
  have bel := hst.below
  subst he
  exact ⟨_, rfl, _, _, _, [], _, [], hW', trodAll_mk1 (shut_bool Try.underlying4 _), (trodAll_cons_mk (Below.trod laidOut (by kernel_rfl) (of_decide_eq_true (by kernel_rfl)) k0 bel lt0) trodAll_mk0), rfl, bel.frame _, fun h => by cases h⟩

theorem over : Rows.fnBreaksRow.holds Try.pinned (OpenSpec.ofChange Rows.fnBreaksSpec) :=
  OpenClaim.holds_of_wide 4 Try.f4 rfl rfl rfl rfl rfl rfl rfl ⟨rfl, rfl, rfl, rfl, rfl⟩ rfl rfl rfl rfl rfl (by kernel_rfl) Try.func4 (by kernel_rfl)
    (of_decide_eq_true (by kernel_rfl)) (by unfold Func.isWrapper; first | (rw [if_pos (by decide +kernel)]; kernel_rfl) | (rw [if_neg (by decide +kernel)]; exact ⟨rfl, rfl⟩))
    (fun os started H enc _ => lifted os started H enc)

theorem proved : Rows.FnBreaksSaid := over
#print axioms proved
end Go.Proofs.Ytgflhgkcmfjkgaa.fnBreaks
end
