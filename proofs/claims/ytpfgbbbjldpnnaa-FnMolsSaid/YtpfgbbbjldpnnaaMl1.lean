/- Walks: orthogonal squares and lists of them, of the program. -/
import Derived.Test.YtpfgbbbjldpnnaaPMol
import Derived.Test.YtpfgbbbjldpnnaaSqB
namespace Go.Proofs.Ytpfgbbbjldpnnaa
set_option linter.unusedSimpArgs false
set_option linter.unusedVariables false
open Go.RowKit
attribute [local go_sem ↓] Go.wp_at_zero Go.wp_at_succ

set_option maxHeartbeats 4000000 in
set_option maxRecDepth 100000 in
theorem superpose1_c (x y : Nat) (gn ga gb : Nat) (v v' : Value) (us us' : List Value) (n : Nat) (A B : List (List Int)) (w : World) (hn : w.cell? ⟨gn, 0, none⟩ = some (.int .i64 n)) (ha : w.cell? ⟨ga, 0, none⟩ = some v) (hb : w.cell? ⟨gb, 0, none⟩ = some v')
    (hv : RII w v us A) (hv' : RII w v' us' B) (hA : Sq0 n A) (hB : Sq0 n B) (hx : x < n) (hy : y < n) (hn2 : n ≤ 100) :
    Calls Try.prog 143 #[.int .i64 x, .int .i64 y, .pointer (some ⟨gn, 0, none⟩), .pointer (some ⟨ga, 0, none⟩), .pointer (some ⟨gb, 0, none⟩)] w (GivesI w ((ovF n A B x y : Nat) : Int)) := by
  have hxA : x < A.length := by rw [hA.len]; exact hx
  have hxB : x < B.length := by rw [hB.len]; exact hx
  have i1 := hv.ixe (x : Int) x rfl hxA
  have i2 := hv'.ixe (x : Int) x rfl hxB
  have i3 := (hv.row x hxA).ixe (y : Int) y rfl (by rw [hA.row x hx]; exact hy)
  have i4 := (hv'.row x hxB).ixe (y : Int) y rfl (by rw [hB.row x hx]; exact hy)
  have c1 := hv.cell x hxA
  have c2 := hv'.cell x hxB
  have eA := af_eq hA hx hy
  have eB := af_eq hB hx hy
  have c3 : w.cell? (el (vat us x) y) = some (.int .i64 (af A x y : Nat)) := by rw [← eA.1]; exact (hv.row x hxA).cell y (by rw [hA.row x hx]; exact hy)
  have c4 : w.cell? (el (vat us' x) y) = some (.int .i64 (af B x y : Nat)) := by rw [← eB.1]; exact (hv'.row x hxB).cell y (by rw [hB.row x hx]; exact hy)
  have hlt := ovF_lt hA hB hx hy
  have hN : n * n ≤ 10000 := Nat.mul_le_mul hn2 hn2
  have hO : ovF n A B x y = n * af A x y + af B x y := rfl
  generalize ovF n A B x y = o at *
  generalize af A x y = a at *
  generalize af B x y = b at *
  obtain ⟨P, hP⟩ : ∃ P, P = n * a := ⟨_, rfl⟩
  rw [← hP] at hO
  have q1 : (n : Int) * (a : Int) = (P : Int) := by rw [hP]; rfl
  have q2 : IntKind.i64.wrap (P : Int) = (P : Int) := IntWalk.i64_in _ (by omega)
  have q3 : (P : Int) + (b : Int) = (o : Int) := by omega
  have q4 : IntKind.i64.wrap (o : Int) = (o : Int) := IntWalk.i64_in _ (by omega)
  clear hA hB eA eB hO hP hv hv'
  go_enter Try.func143, Try.ntmps143
  go_wp2_with fail
  go_region_held3 (fun w' => w'.cell? ⟨gn, 0, none⟩ = some (.int .i64 n) ∧ w'.cell? ⟨ga, 0, none⟩ = some v ∧ w'.cell? ⟨gb, 0, none⟩ = some v' ∧ w'.cell? (el v x) = some (vat us x) ∧ w'.cell? (el v' x) = some (vat us' x) ∧ w'.cell? (el (vat us x) y) = some (.int .i64 (a : Int)) ∧ w'.cell? (el (vat us' x) y) = some (.int .i64 (b : Int))) (((try dsimp only); (repeat' apply And.intro); all_goals (repeat (first | assumption | exact cell_dr (by assumption) | refine cell_dr ?_ | refine cell_al ?_ | refine cell_sc (by assumption) ?_)))) (fail)
  go_wp2_with fail
  go_ret
  exact ⟨rfl, (St.refl w).drew⟩
set_option maxHeartbeats 4000000 in
set_option maxRecDepth 100000 in
theorem superpose_c (v v' : Value) (us us' : List Value) (n : Nat) (A B : List (List Int)) (w : World) (hv : RII w v us A) (hv' : RII w v' us' B) (hA : Sq0 n A) (hB : Sq0 n B) (hn2 : n ≤ 100) :
    Calls Try.prog 116 #[v, v'] w (MakesII w (ovL n A B)) := by
  obtain ⟨sa, ca, rfl⟩ := hv.1.sl.sh
  obtain ⟨sb, cb, rfl⟩ := hv'.1.sl.sh
  have hS1 := ((St.refl w).newboxF 37 #[.slice sa us.length ca]).newboxF 37 #[.slice sb us'.length cb]
  have hS2 := hS1.newboxF 2 #[.int .i64 n]
  simp only [World.size_alloc] at hS1 hS2
  have hcf := callFunc_go Try.func143 (by kernel_rfl) (by kernel_rfl)
  have hmf : ∀ (fn : Fn) (first cap : Array Value) (w : World), (Instr.makeFunc fn first cap).run Try.prog w = .ok (.func fn first cap) w := fun _ _ _ _ => rfl
  have HZ := Lib.hid (szII_c _ us A _ (hS1.oldII hv))
  rw [hA.len] at HZ
  have hcall := Lib.hid (filledSquare_c 143 #[.pointer (some ⟨w.heap.size + 1 + 1, 0, none⟩), .pointer (some ⟨w.heap.size, 0, none⟩), .pointer (some ⟨w.heap.size + 1, 0, none⟩)] (fun x y => ((ovF n A B x y : Nat) : Int)) n _ (by omega) hcf (fun x y W hW hx hy =>
    superpose1_c x y (w.heap.size + 1 + 1) w.heap.size (w.heap.size + 1) _ _ us us' n A B W
      (by rw [hW.below.cell (World.block_lt_of_cell? _ _ (hS2.bcell 0 rfl 0 rfl))]; exact hS2.bcell 0 rfl 0 rfl)
      (by rw [hW.below.cell (World.block_lt_of_cell? _ _ (hS2.bcell 2 rfl 0 rfl))]; exact hS2.bcell 2 rfl 0 rfl)
      (by rw [hW.below.cell (World.block_lt_of_cell? _ _ (hS2.bcell 1 rfl 0 rfl))]; exact hS2.bcell 1 rfl 0 rfl)
      ((hS2.oldII hv).keep hW.below) ((hS2.oldII hv').keep hW.below) hA hB hx hy hn2))
  clear hcf hA hB
  go_enter Try.func116, Try.ntmps116
  go_wp2_with fail
  refine HZ.out.mono ?_
  rintro e w1 ⟨rfl, rfl⟩
  go_wp2_with fail
  refine hcall.out.mono ?_
  rintro e w2 ⟨o, uo, rfl, hl, h2⟩
  have hS3 := hS2.call h2
  have Hl := Lib.hid hl
  clear hl h2
  go_wp2_with fail
  go_ret
  exact ⟨o, uo, rfl, Hl.out, hS3.sub (List.sublist_append_right _ _)⟩
set_option maxHeartbeats 8000000 in
set_option maxRecDepth 100000 in
theorem orthogonal_c (v v' : Value) (us us' : List Value) (A B : List (List Int)) (w : World) (hv : RII w v us A) (hv' : RII w v' us' B) (hA : Lat A) (hB : Lat B) :
    Calls Try.prog 84 #[v, v'] w (GivesB w (orB A B)) := by
  have hla := hv.len
  have hlb := hv'.len
  have hA10 := hA.le
  have hB10 := hB.le
  by_cases hne : A.length = B.length
  · have f1 : ((A.length : Int) != (B.length : Int)) = false := ne_f (by omega)
    have qA := hA.sq0
    have qB : Sq0 A.length B := by rw [hne]; exact hB.sq0
    have HS := fun W (a : RII W v us A) (b : RII W v' us' B) => Lib.hid (superpose_c v v' us us' A.length A B W a b qA qB (by omega))
    obtain ⟨n, hn⟩ : ∃ n, n = A.length := ⟨_, rfl⟩
    obtain ⟨N, hN⟩ : ∃ N, N = n * n := ⟨_, rfl⟩
    have hNle : N ≤ 100 := by rw [hN]; exact Nat.mul_le_mul (show n ≤ 10 by omega) (show n ≤ 10 by omega)
    have q1 : (A.length : Int) * (A.length : Int) = (N : Int) := by rw [hN, hn]; rfl
    have Hq := Lib.hid (And.intro qA qB)
    rw [← hn] at Hq HS
    have HfN := Lib.hid (fun x y (hx : x < n) (hy : y < n) => (show ovF n A B x y < N by rw [hN]; exact ovF_lt Hq.out.1 Hq.out.2 hx hy))
    have HY := Lib.hid (fun s (h : SnI n N (ovF n A B) n 0 s) => orB_yes hne (by rw [← hn]; exact h.ort Hq.out.1 Hq.out.2))
    have HNo := Lib.hid (fun x y s (h : SnI n N (ovF n A B) x y s) hx hy hb => orB_no (A := A) (B := B) fun hh => h.nort Hq.out.1 Hq.out.2 hx hy (HfN.out x y hx hy) hb (by rw [hn]; exact hh.2))
    have hnn : n ≤ 10 := by omega
    rw [← hne, ← hn] at hlb
    rw [← hne, ← hn] at f1
    rw [← hn] at hla q1
    clear qA qB hN hA10 hB10 hA hB hne hn
    go_enter Try.func84, Try.ntmps84
    go_wp2_with (at_make; refine mkO (St.refl w) rfl _ _ rfl _ _ N rfl rfl (by omega) ?_; intro sv w1 hS1; have hr := hS1.rdO 0 rfl; have hsx := hr.ixe; simp only [List.length_replicate] at hsx; clear hr)
    refine (HS _ (hS1.oldII hv) (hS1.oldII hv')).out.mono ?_
    rintro e w2 ⟨o, uo, rfl, hl, h2⟩
    have hS2 := hS1.call h2
    have hln := (h2.rii hl).len
    have hox := (h2.rii hl).ixe
    rw [ovL_len] at hln hl hox
    have Hl := Lib.hid hl
    clear hl h2 hS1
    go_wp2_with fail
    go_loopw [7, 9, 25, 31] (fun _ _ i _ wr => ∃ (k : Nat) (s : List Bool), k ≤ n ∧ i = .int .i64 k ∧ Hid (SnI n N (ovF n A B) k 0 s) ∧ St w.heap.size w wr (row 4 sv (bo s) :: own2 o uo (ovL n A B))) (fun _ _ i _ _ => n - (intOf i).toNat)
    case atStart => exact ⟨0, _, by omega, rfl, SnI.start, hS2⟩
    case round =>
      clear hS2
      obtain ⟨k, s, hk, rfl, hI, hS⟩ := hrel
      by_cases hlt : k < n
      · have hR := (hS.sub (L' := own2 o uo (ovL n A B)) (List.sublist_cons_self _ _)).rii (by rw [Hl.out, ovL_len])
        have ck := hR.cell k (by rw [ovL_len]; exact hlt)
        have hxk := hox (k : Int) k rfl hlt
        have hrow := hR.row k (by rw [ovL_len]; exact hlt)
        have hrl := hrow.len
        have hrx := hrow.ixe
        rw [ovL_row hlt] at hrl hrx
        clear hR hrow
        go_wp2_with fail
        clear ck hxk
        go_loopw [9, 31] (fun _ j wr' => ∃ (y : Nat) (s : List Bool), y ≤ n ∧ j = .int .i64 y ∧ Hid (SnI n N (ovF n A B) k y s) ∧ St w.heap.size w wr' (row 4 sv (bo s) :: own2 o uo (ovL n A B))) (fun _ j _ => n - (intOf j).toNat)
        case atStart => exact ⟨0, s, by omega, rfl, hI.out, hS⟩
        case round =>
          clear hI hS
          obtain ⟨y, s, hy, rfl, hI, hS⟩ := hrel
          by_cases hly : y < n
          · have hR := (hS.sub (L' := own2 o uo (ovL n A B)) (List.sublist_cons_self _ _)).rii (by rw [Hl.out, ovL_len])
            have cy := (hR.row k (by rw [ovL_len]; exact hlt)).cell y (by rw [ovL_row hlt]; exact hly)
            rw [ovL_at hlt hly] at cy
            have hxy := hrx (y : Int) y rfl hly
            have hfN := HfN.out k y hlt hly
            have hxs := hsx ((ovF n A B k y : Nat) : Int) (ovF n A B k y) rfl hfN
            have cs := (hS.rdO 0 rfl).cell (ovF n A B k y) (by rw [hI.out.len]; exact hfN)
            clear hR
            cases hb : bat s (ovF n A B k y)
            · have Hst := Lib.hid (hI.out.step hlt hly hfN hb)
              have Hsl := Lib.hid (show ovF n A B k y < s.length by rw [hI.out.len]; exact hfN)
              rw [hb] at cs
              clear hb
              generalize ovF n A B k y = o' at *
              go_wp2_with (refine stoO hS 0 rfl o' Hsl.out rfl _ _ rfl rfl true rfl ?_; intro w2' hS2)
              simp only [List.set_cons_zero] at hS2
              go_roundw
              case rel => exact ⟨y + 1, _, by omega, by go_num, Hst.out, hS2⟩
              case measure => simp [intOf]; omega
            · have Hno := Lib.hid (HNo.out _ _ _ hI.out hlt hly hb)
              rw [hb] at cs
              clear hb
              generalize ovF n A B k y = o' at *
              go_wp2_with fail
              go_ret
              exact ⟨ret_bool Hno.out.symm, hS.out⟩
          · obtain rfl : y = n := by omega
            have Hnx := Lib.hid hI.out.next
            go_wp2_with fail
            go_roundw
            case rel => exact ⟨k + 1, s, by omega, by go_num, Hnx.out, hS⟩
            case measure => simp [intOf]; omega
      · obtain rfl : k = n := by omega
        have Hy := Lib.hid (HY.out _ hI.out)
        go_wp2_with fail
        go_ret
        exact ⟨ret_bool Hy.out.symm, hS.out⟩
  · have f1 : ((A.length : Int) != (B.length : Int)) = true := ne_t (by omega)
    have H := Lib.hid (orB_no (A := A) (B := B) fun h => hne h.1)
    clear hne
    go_enter Try.func84, Try.ntmps84
    go_wp2_with fail
    go_ret
    exact ⟨ret_bool H.out.symm, St.refl w⟩
theorem und_elem_a3 : Try.prog.underlying 50 = some (.slice (Try.prog.elem 50)) := by kernel_rfl
theorem elem_size_a3 : (Try.prog.info? (Try.prog.elem 50)).map (·.size) = some 1 := by kernel_rfl
theorem rslIII_hi {w : World} {v : Value} {us : List Value} (h : Rd w v us) (hi : Nat) (h2 : hi ≤ us.length) (W : World) :
    (Instr.slice 50 v none (some (.int .i64 (hi : Int))) none).run Try.prog W = .ok (rsl v 0 hi) W := by
  obtain ⟨⟨a, cap, rfl, hc1, hc2, ha⟩, hcell⟩ := h
  obtain ⟨inf, hinf, hs⟩ := Option.map_eq_some_iff.1 elem_size_a3
  rw [run_slice_h W 50 a _ cap und_elem_a3 .i64 hi (by omega) (by omega)]
  simp [sizeOf, typeInfo, hinf, hs, rsl, Result.andThen]
theorem RIII.takeR {w : World} {v : Value} {vs : List Value} {uss : List (List Value)} {X : List (List (List Int))} (h : RIII w v vs uss X) {k : Nat} (hk : k ≤ X.length) : RIII w (rsl v 0 k) (vs.take k) (uss.take k) (X.take k) := by
  have h1 := rsl_Rd h.1 (Nat.zero_le k) (by rw [h.2.1]; exact hk)
  rw [List.drop_zero] at h1
  refine ⟨h1, by rw [List.length_take, List.length_take, h.2.1], fun j hj => ?_⟩
  rw [List.length_take] at hj
  have e1 : vat (vs.take k) j = vat vs j := by unfold vat; rw [List.getD_eq_getElem?_getD, List.getD_eq_getElem?_getD, List.getElem?_take, if_pos (by omega)]
  have e2 : vsat (uss.take k) j = vsat uss j := by unfold vsat; rw [List.getD_eq_getElem?_getD, List.getD_eq_getElem?_getD, List.getElem?_take, if_pos (by omega)]
  have e3 : x3at (X.take k) j = x3at X j := by unfold x3at; rw [List.getD_eq_getElem?_getD, List.getD_eq_getElem?_getD, List.getElem?_take, if_pos (by omega)]
  rw [e1, e2, e3]
  exact h.row j (by omega)
theorem szIII_c (v : Value) (vs : List Value) (uss : List (List Value)) (X : List (List (List Int))) (w : World) (hv : RIII w v vs uss X) :
    Calls Try.prog 85 #[v] w fun e w' => e = .returned (.int .i64 X.length) ∧ w = w' := by
  have hln := hv.len
  go_enter Try.func85, Try.ntmps85
  go_wp2_with fail
  go_ret
  exact ⟨rfl, rfl⟩
/-- rows of no more than 2^20 numbers -/
def Sml (X : List (List (List Int))) : Prop := ∀ k, k < X.length → ∀ x, x < (x3at X k).length → (xat (x3at X k) x).length ≤ 1048576
set_option maxHeartbeats 4000000 in
set_option maxRecDepth 100000 in
theorem ValidMols_c (v : Value) (vs : List Value) (uss : List (List Value)) (X : List (List (List Int))) (w : World) (hv : RIII w v vs uss X) (hN : Sml X) :
    Calls Try.prog 32 #[v] w (GivesB w (molB X)) := by
  have hln := hv.len
  have hix := hv.ixe
  have hle := hv.le
  have HZ := fun W a => Lib.hid (szIII_c v vs uss X W a)
  have Hv := Lib.hid hv
  clear hv
  go_enter Try.func32, Try.ntmps32
  go_wp2_with fail
  go_loopw [3, 4, 6, 9, 21] (fun _ _ _ i _ wr => ∃ k : Nat, k ≤ X.length ∧ i = .int .i64 k ∧ Hid (∀ j, j < k → Lat (x3at X j) ∧ ∀ i, i < j → orB (x3at X j) (x3at X i) = true) ∧ St w.heap.size w wr []) (fun _ _ _ i _ _ => X.length - (intOf i).toNat)
  case atStart => exact ⟨0, by omega, rfl, fun j hj => by omega, St.refl w⟩
  case round =>
    obtain ⟨k, hk, rfl, hI, hS⟩ := hrel
    by_cases hlt : k < X.length
    · have hR := hS.oldIII Hv.out
      have ck := hR.cell k hlt
      have hxk := hix (k : Int) k rfl hlt
      have HV := Lib.hid (ValidSquare_c (vat vs k) (vsat uss k) (x3at X k) wr (hR.row k hlt) (hN k hlt))
      cases hl : latB (x3at X k)
      · have Hno := Lib.hid (molB_no (X := X) fun h => by have := latB_yes (h.lat k hlt); rw [hl] at this; cases this)
        rw [hl] at HV
        clear hl hR
        go_wp2_with fail
        refine HV.out.mono ?_
        rintro e w2 ⟨rfl, h2⟩
        have hS2 := hS.call0 h2
        go_wp2_with fail
        go_ret
        exact ⟨ret_bool Hno.out.symm, hS2⟩
      · have Hlk := Lib.hid (latB_t hl)
        have Hsl := Lib.hid (rslIII_hi Hv.out.1 k (by rw [Hv.out.2.1]; omega))
        have Ht := fun W (a : RIII W v vs uss X) => Lib.hid (a.takeR (k := k) (by omega))
        have Htk := (Hv.out.takeR (k := k) (by omega))
        have htl := Htk.len
        have htx := Htk.ixe
        rw [List.length_take, Nat.min_eq_left hk] at htl htx
        rw [hl] at HV
        have hsl := Hsl.out
        clear hl hR Htk Hsl
        generalize hvt : rsl v 0 k = vt at *
        clear hvt
        go_wp2_with fail
        refine HV.out.mono ?_
        rintro e w2 ⟨rfl, h2⟩
        have hS2 := hS.call0 h2
        clear hS h2
        go_wp2_with fail
        clear ck hxk
        go_loopw [6, 21] (fun _ i wr' => ∃ m : Nat, m ≤ k ∧ i = .int .i64 m ∧ Hid (∀ i, i < m → orB (x3at X k) (x3at X i) = true) ∧ St w.heap.size w wr' []) (fun _ i _ => k - (intOf i).toNat)
        case atStart => exact ⟨0, by omega, rfl, fun j hj => by omega, hS2⟩
        case round =>
          clear hS2
          obtain ⟨m, hm, rfl, hJ, hS⟩ := hrel
          by_cases hlm : m < k
          · have hR := hS.oldIII Hv.out
            have cm : wr.cell? (el vt m) = some (vat vs m) := by
              have := (Ht _ hR).out.cell m (by rw [List.length_take]; omega)
              rw [this]; unfold vat
              rw [List.getD_eq_getElem?_getD, List.getD_eq_getElem?_getD, List.getElem?_take, if_pos hlm]
            have hxm := htx (m : Int) m rfl hlm
            have HO := Lib.hid (orthogonal_c (vat vs k) (vat vs m) (vsat uss k) (vsat uss m) (x3at X k) (x3at X m) wr (hR.row k hlt) (hR.row m (by omega)) Hlk.out (hI.out m hlm).1)
            cases ho : orB (x3at X k) (x3at X m)
            · have Hno := Lib.hid (molB_no (X := X) fun h => by have := h.ort k m hlm hlt; rw [ho] at this; cases this)
              rw [ho] at HO
              clear ho hR
              go_wp2_with fail
              refine HO.out.mono ?_
              rintro e w3 ⟨rfl, h3⟩
              have hS3 := hS.call0 h3
              go_wp2_with fail
              go_ret
              exact ⟨ret_bool Hno.out.symm, hS3⟩
            · have HJ := Lib.hid (show ∀ i, i < m + 1 → orB (x3at X k) (x3at X i) = true from fun i hi => by
                by_cases e : i = m
                · rw [e]; exact ho
                · exact hJ.out i (by omega))
              rw [ho] at HO
              clear ho hR
              go_wp2_with fail
              refine HO.out.mono ?_
              rintro e w3 ⟨rfl, h3⟩
              have hS3 := hS.call0 h3
              go_wp2_with fail
              go_roundw
              case rel => exact ⟨m + 1, by omega, by go_num, HJ.out, hS3⟩
              case measure => simp [intOf]; omega
          · obtain rfl : m = k := by omega
            have HI := Lib.hid (show ∀ j, j < m + 1 → Lat (x3at X j) ∧ ∀ i, i < j → orB (x3at X j) (x3at X i) = true from fun j hj => by
              by_cases e : j = m
              · rw [e]; exact ⟨Hlk.out, hJ.out⟩
              · exact hI.out j (by omega))
            go_wp2_with fail
            go_roundw
            case rel => exact ⟨m + 1, by omega, by go_num, HI.out, hS⟩
            case measure => simp [intOf]; omega
    · obtain rfl : k = X.length := by omega
      have H : Hid (inB (X.length : Int) 1 10 = molB X) := by
        unfold Hid
        by_cases h : 1 ≤ (X.length : Int) ∧ (X.length : Int) ≤ 10
        · rw [inB_true h, molB_yes ⟨by omega, by omega, fun k hk => (hI.out k hk).1, fun k i hi hk => (hI.out k hk).2 i hi⟩]
        · rw [inB_false h, molB_no fun hh => h (by have := hh.pos; have := hh.le; omega)]
      go_wp2_with (first
        | (go_at_call 67; refine (within_c _ _ _ _).mono ?_; rw [H.out]; rintro e w3 ⟨rfl, rfl⟩)
        | (go_at_call 85; refine (HZ _ (hS.oldIII Hv.out)).out.mono ?_; rintro e w2 ⟨rfl, rfl⟩))
      go_ret
      exact ⟨rfl, hS⟩
end Go.Proofs.Ytpfgbbbjldpnnaa
