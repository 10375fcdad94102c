/- The texts of this claim, run 6: Gc Gb Gd Gl Sss Sq PLat Bo Pm6 SqB Ge Gu Gv Gw Gx Gz. -/
import Derived.Test.YtdgmaodnkbgolaaK1
import Derived.Test.YtdgmaodnkbgolaaK2
import Derived.Test.YtdgmaodnkbgolaaK3
import Derived.Test.YtdgmaodnkbgolaaK4
import Derived.Test.YtdgmaodnkbgolaaK5
import Derived.IntWalk
section
/- Walks: what permutations generate. -/
namespace Go.Proofs.Ytdgmaodnkbgolaa
set_option linter.unusedSimpArgs false
set_option linter.unusedVariables false
open Go.RowKit Go.Maps
attribute [local go_sem ↓] Go.wp_at_zero Go.wp_at_succ

/-- an ordered list of its own, and true -/
def MakesCl (w : World) (n : Nat) (S : List (List Int)) (e : Ending) (w' : World) : Prop := ∃ v us R, e = .returned (.tuple #[v, .bool true]) ∧ us.length = R.length ∧ ClO n S R ∧ St w.heap.size w w' (own2 v us R)
theorem own2_snocM {v : Value} {us : List Value} {xss : List (List Int)} {u : Value} {xs : List Int} (hl : us.length = xss.length) (v' : Value) :
    ((own2 v us xss ++ [row 2 u (iv xs)]).set 0 (row 32 v' (us ++ [u]))) = own2 v' (us ++ [u]) (xss ++ [xs]) := by
  rw [own2, own2, rowsI_app hl]; rfl
set_option maxHeartbeats 32000000 in
set_option maxRecDepth 100000 in
theorem closure_c (n : Nat) (vg : Value) (ug : List Value) (S A : List (List Int)) (w : World) (hv : RII w vg ug S) (hn : 1 ≤ n ∧ n ≤ 32) (hA : Grp n A) (hS : ∀ g ∈ S, g ∈ A) (hl : A.length ≤ 720) :
    Calls Try.prog 24 #[.int .i64 n, vg] w (MakesCl w n S) := by
  have hlng := hv.len
  have hixg := hv.ixe
  have hSl := hv.le
  have KI := Lib.hid (fun W => ident_c n W (by omega))
  have hmm := @run_makeMap Try.prog
  have Hv := Lib.hid hv
  have HA := Lib.hid hA
  have HS := Lib.hid hS
  have hN1 := hn.1
  have hN2 := hn.2
  clear hv hA hS hn
  go_enter Try.func24, Try.ntmps24
  go_wp2_with fail
  refine (KI.out _).mono ?_
  rintro e w1 ⟨v1, rfl, h1⟩
  obtain ⟨a1, c1, hsh⟩ := (h1.rdI 0 rfl).sl.sh
  rw [iv_len, iot_len] at hsh
  subst hsh
  have hS2 := (h1.new 32 #[.slice a1 n c1] (by simp [maxLen])).perm (L' := own2 (.slice (some ⟨w1.heap.size, 0, none⟩) 1 1) [.slice a1 n c1] [iot n]) List.perm_append_comm
  have hlow := Lib.hid hS2.base
  have hap := Lib.hid (fun x (hx : x ∈ own2 (.slice (some ⟨w1.heap.size, 0, none⟩) 1 1) [.slice a1 n c1] [iot n]) => (show bk x.v ≠ some (w1.heap.size + 1) from fun e => by
    have := ((hS2.ok x hx).lt e).2
    simp only [World.size_alloc] at this; omega))
  have hM := hS2.alloc' (.map #[] 0)
  have hr := hM.rii rfl
  have x0 := hr.ixe 0 0 rfl (by simp)
  have c0 := hr.cell 0 (by simp)
  rw [show vat [.slice a1 n c1] 0 = .slice a1 n c1 from rfl] at c0
  have hr0 := hr.row 0 (by simp)
  rw [show vat [.slice a1 n c1] 0 = .slice a1 n c1 from rfl, show xat [iot n] 0 = iot n from rfl] at hr0
  have KK := Lib.hid (keyOf_c _ _ _ hr0 ((Prm.one n).byt hN2) (by rw [iot_len]; omega) (by rw [iot_len]; omega))
  have hM0 : SM w (w1.heap.size + 1) 0 [] _ (own2 (.slice (some ⟨w1.heap.size, 0, none⟩) 1 1) [.slice a1 n c1] [iot n]) := ⟨hM, by
    have := World.ownsMap_made (H := Unit) (w1.alloc (.cells #[.slice a1 n c1] 32)) Try.prog 9 (plainElem (H := Unit) Try.prog 4)
    simp only [World.size_alloc] at this
    exact this, by have := hlow.out; simp only [World.size_alloc] at this; omega, hap.out⟩
  have hkey0 : Go.keyOf Try.prog 9 (.string (kyS (iot n))) = some (kyL (iot n)) := Go.WideMaps.keyOf_string_mk Try.und_str (by rw [kyS_size, iot_len]; unfold maxLen; omega)
  clear h1 hS2 hM hr hr0
  go_wp2_with fail
  refine KK.out.mono ?_
  clear KK
  rintro e w3 ⟨rfl, h3⟩
  have hM1 := hM0.call0 h3
  have hown := hM1.own
  clear hM0 h3 x0 c0
  go_wp2_with (refine wpList_insert_own _ rfl _ _ _ 57 rfl 9 4 Try.lawS Try.underlying57 (plainElem (H := Unit) Try.prog 4) (w1.heap.size + 1) _ _ rfl hown (by unfold maxLen; omega) _ _ _ rfl rfl hkey0 _ [] (plainElem_bool Try.underlying4 true) ?_; intro w5 hM5 hg5)
  have hM6 := hM1.turn (ks' := kyA [iot n]) hg5 (n' := 1) hM5
  clear hM1 hown hM5 hg5 hkey0 hlow hap
  obtain ⟨b, hb⟩ : ∃ b, w1.heap.size + 1 = b := ⟨_, rfl⟩
  rw [hb] at hM6 ⊢
  clear hb
  have HB0 : Hid (Bfs n S [iot n] 0 0 ∧ [Value.slice a1 n c1].length = [iot n].length) := Lib.hid ⟨Bfs.start n S, rfl⟩
  have Hbyt := Lib.hid (fun p (hp : p ∈ A) => (HA.out.prm p hp).byt hN2)
  go_wp2_with fail
  go_loopw [8, 6, 10, 11, 12] (fun ki o _ _ _ wr => ∃ (k m : Nat) (uo : List Value) (E : List (List Int)), ki = .int .i64 k ∧ Hid (Bfs n S E k 0 ∧ uo.length = E.length) ∧ m ≤ E.length ∧ SM w b m (kyA E) wr (own2 o uo E)) (fun ki _ _ _ _ _ => A.length + 1 - (intOf ki).toNat)
  case atStart => exact ⟨0, 1, _, [iot n], rfl, HB0, by simp, hM6⟩
  case round =>
    clear hM6 HB0
    obtain ⟨k, m, uo, E, rfl, hI, hm, hM⟩ := hrel
    have hEl := hI.out.1.le HA.out HS.out
    have hkE := hI.out.1.kl
    have hr := hM.st.rii hI.out.2
    have hlE := hr.len
    by_cases hk : k < E.length
    · have hki : (k : Int) < (E.length : Int) := by omega
      have HK0 : Hid (Bfs n S E k 0 ∧ uo.length = E.length ∧ k < E.length) := Lib.hid ⟨hI.out.1, hI.out.2, hk⟩
      clear hr hI
      go_wp2_with fail
      clear hlE
      go_loopw [30, 6, 10, 11, 12] (fun ii o _ _ _ wr => ∃ (i m : Nat) (uo : List Value) (E : List (List Int)), ii = .int .i64 i ∧ i ≤ S.length ∧ Hid (Bfs n S E k i ∧ uo.length = E.length ∧ k < E.length) ∧ m ≤ E.length ∧ SM w b m (kyA E) wr (own2 o uo E)) (fun ii _ _ _ _ _ => S.length - (intOf ii).toNat)
      case atStart => exact ⟨0, m, uo, E, rfl, by omega, HK0, hm, hM⟩
      case round =>
        clear hM HK0 hEl hkE hk hki hm
        obtain ⟨i, m, uo, E, rfl, hi, hI, hm, hM⟩ := hrel
        have hEl := hI.out.1.le HA.out HS.out
        have hk := hI.out.2.2
        have hr := hM.st.rii hI.out.2.1
        by_cases hiS : i < S.length
        · have hii : (i : Int) < (S.length : Int) := by omega
          have xi := hixg (i : Int) i rfl hiS
          have ci := (hM.st.oldII Hv.out).cell i hiS
          have xk := hr.ixe (k : Int) k rfl hk
          have ck := hr.cell k hk
          have hpE := HA.out.prm _ (HA.out.gen HS.out (hI.out.1.gen _ (xat_mem hk)))
          have hpS := HA.out.prm _ (HS.out _ (xat_mem hiS))
          have KC := Lib.hid (compose_c (vat uo k) (vat ug i) (xat E k) (xat S i) wr (hr.row k hk) ((hM.st.oldII Hv.out).row i hiS) hpE.1 (by rw [hpE.2, hpS.2]) (by rw [hpE.2]; omega))
          have hpp := hpE.cmp hpS
          have hpb := hpp.byt hN2
          have HBE := Lib.hid (fun q (hq : q ∈ E) => Hbyt.out q (HA.out.gen HS.out (hI.out.1.gen q hq)))
          have Hst := Lib.hid (And.intro (fun hm => hI.out.1.old (i := i) hm) (fun hm => hI.out.1.new hk hiS hm))
          have hul := Lib.hid hI.out.2.1
          generalize cmpL (xat E k) (xat S i) = p at *
          have KK := Lib.hid (fun W v (h : RdI W v p) => keyOf_c v p W h hpb (by rw [hpp.2]; omega) (by rw [hpp.2]; omega))
          have hkey : Go.keyOf Try.prog 9 (.string (kyS p)) = some (kyL p) := Go.WideMaps.keyOf_string_mk Try.und_str (by rw [kyS_size, hpp.2]; unfold maxLen; omega)
          have hz : ∀ W, (zeroValue 4).run Try.prog W = .ok (.bool false) W := fun W => by kernel_rfl
          have hplen := Lib.hid hpp.2
          have Hpb := Lib.hid hpb
          clear hpE hpS hpp hpb hI hr
          go_wp2_with fail
          refine KC.out.mono ?_
          clear KC
          rintro e7 w7 ⟨vp, rfl, h7⟩
          have hM7 := hM.call h7
          have r7 := h7.rdI 0 rfl
          obtain ⟨ap, cp, hsh⟩ := r7.sl.sh
          rw [iv_len, hplen.out] at hsh
          subst hsh
          clear hM h7 ck ci
          go_wp2_with fail
          refine (KK.out _ _ r7).mono ?_
          clear KK
          rintro e8 w8 ⟨rfl, h8⟩
          have hM8 := hM7.call0 h8
          have hown := hM8.own
          clear hM7 h8 r7
          by_cases hmem : p ∈ E
          · have hat := setT_yes (kyL_key p) ((kyA_mem Hpb.out HBE.out).2 hmem)
            have HB := Lib.hid (Hst.out.1 hmem)
            clear hmem Hst
            go_wp2_with (at_lookup; refine wpList_lookup_own_bool _ rfl _ _ 57 rfl 9 4 Try.lawS Try.underlying57 Try.underlying4 (hz _) b _ _ rfl hown _ _ rfl hkey true hat ?_)
            go_roundw
            case rel => exact ⟨i + 1, m, uo, E, by go_num, by omega, Lib.hid ⟨HB.out, hul.out, hk⟩, hm, hM8.sub (List.sublist_append_left _ _)⟩
            case measure => simp [intOf]; omega
          · have hat := setT_no (kyL_key p) (fun h => hmem ((kyA_mem Hpb.out HBE.out).1 h))
            have HB := Lib.hid (Hst.out.2 hmem)
            clear hmem Hst
            have hcap := Lib.hid (show m < maxLen by unfold maxLen; omega)
            have hN := Lib.hid (show uo.length < 4294967296 by rw [hul.out]; omega)
            go_wp2_with (first
              | (at_lookup; refine wpList_lookup_own_bool _ rfl _ _ 57 rfl 9 4 Try.lawS Try.underlying57 Try.underlying4 (hz _) b _ _ rfl hown _ _ rfl hkey false hat ?_)
              | (at_mapUpdate; refine wpList_mapUpdate_own _ rfl _ _ _ 57 rfl 9 4 Try.lawS Try.underlying57 (plainElem (H := Unit) Try.prog 4) b _ _ rfl hown hcap.out _ _ _ rfl rfl hkey _ [] (plainElem_bool Try.underlying4 true) ?_; intro w9 hM9 hg9; have hM10 := hM8.turn (ks' := kyA E ++ [kyL p]) hg9 (n' := m + 1) (by rw [setT_snoc]; exact hM9))
              | (at_builtin; refine appIIM hM10 0 rfl hN.out rfl _ _ rfl rfl _ rfl (by first | rfl | simp [Act.eval, World.size_alloc]) ?_; intro v11 w11 hM11))
            rw [own2_snocM hul.out] at hM11
            have hke : kyA E ++ [kyL p] = kyA (E ++ [p]) := by simp [kyA]
            rw [hke] at hM11
            go_roundw
            case rel => exact ⟨i + 1, m + 1, _, _, by go_num, by omega, Lib.hid ⟨HB.out, by rw [List.length_append, List.length_append, hul.out]; rfl, by rw [List.length_append]; omega⟩, by rw [List.length_append, List.length_singleton]; omega, hM11⟩
            case measure => simp [intOf]; omega
        · obtain rfl : i = S.length := by omega
          have hlE := hr.len
          have h720 : ¬ (720 : Int) < (E.length : Int) := by omega
          have HB := Lib.hid (hI.out.1.next hk)
          have hul := Lib.hid hI.out.2.1
          clear hr hI
          go_wp2_with fail
          go_roundw
          case rel => exact ⟨k + 1, m, uo, E, by go_num, Lib.hid ⟨HB.out, hul.out⟩, hm, hM⟩
          case measure => simp [intOf]; omega
    · obtain rfl : k = E.length := by omega
      have HF := Lib.hid hI.out.1.fin
      have hul := hI.out.2
      have hS := hM.st.perm (L' := own2 u6 uo E ++ []) (by rw [List.append_nil])
      have KS := Lib.hid (SortRows_c hS hul (by omega))
      clear hr hI hS hul hM
      go_wp2_with fail
      refine KS.out.mono ?_
      clear KS
      rintro e9 w9 ⟨us9, rfl, hl9, h9⟩
      rw [List.append_nil] at h9
      go_wp2_with fail
      go_ret2
      exact ⟨_, us9, _, rfl, hl9.trans (srtL_len _).symm, HF.out, h9⟩
end Go.Proofs.Ytdgmaodnkbgolaa
end

section
/- Walks: binary search among ordered lists. -/
namespace Go.Proofs.Ytdgmaodnkbgolaa
set_option linter.unusedSimpArgs false
set_option linter.unusedVariables false
open Go.RowKit
attribute [local go_sem ↓] Go.wp_at_zero Go.wp_at_succ

/-- where it would be, and whether it is there -/
def GivesBS (w : World) (A : List (List Int)) (p : List Int) (e : Ending) (w' : World) : Prop := ∃ a : Nat, e = .returned (.tuple #[.int .i64 a, .bool (decide (p ∈ A))]) ∧ w = w'
theorem callG_cmp : ∀ (args : Array Value) (W : World), (callFunc 44 args).run Try.prog W = .ok (.enter 44 args) W :=
  fun args W => callFunc_go (P := Try.prog) Try.func44 (by kernel_rfl) (by kernel_rfl) args W
/-- the bounds of the search -/
structure BsI (A : List (List Int)) (p : List Int) (lo hi : Nat) : Prop where
  le : lo ≤ hi
  hl : hi ≤ A.length
  lt : ∀ i, i < lo → cmpI (xat A i) p < 0
  ge : ∀ i, hi ≤ i → i < A.length → 0 ≤ cmpI (xat A i) p
theorem BsI.low {A : List (List Int)} {p : List Int} {lo hi m : Nat} (hA : StrA A) (h : BsI A p lo hi) (h1 : lo ≤ m) (h2 : m < hi) (hc : cmpI (xat A m) p < 0) : BsI A p (m + 1) hi :=
  ⟨h2, h.hl, fun i hi => by
    by_cases e : i = m
    · subst e; exact hc
    · exact cmpI_tlt (hA.at' (show i < m by omega) (by have := h.hl; omega)) hc, h.ge⟩
theorem BsI.high {A : List (List Int)} {p : List Int} {lo hi m : Nat} (hA : StrA A) (h : BsI A p lo hi) (h1 : lo ≤ m) (h2 : m < hi) (hc : ¬ cmpI (xat A m) p < 0) : BsI A p lo m :=
  ⟨h1, by have := h.hl; omega, h.lt, fun i hmi hil => by
    by_cases e : i = m
    · subst e; omega
    · have h3 := hA.at' (show m < i by omega) hil
      by_cases q : cmpI (xat A i) p < 0
      · exact absurd (cmpI_tlt h3 q) hc
      · omega⟩
theorem BsI.fin {A : List (List Int)} {p : List Int} {lo : Nat} (hA : StrA A) (h : BsI A p lo lo) : (p ∈ A) ↔ (lo < A.length ∧ cmpI (xat A lo) p = 0) := by
  constructor
  · intro hp
    obtain ⟨i, hi, rfl⟩ := List.getElem_of_mem hp
    rcases Nat.lt_trichotomy i lo with q | q | q
    · have := h.lt i q
      rw [xat_eq hi, cmpI_self] at this; omega
    · subst q; exact ⟨hi, by rw [xat_eq hi, cmpI_self]⟩
    · have h1 := hA.at' q hi
      have h2 := h.ge lo (Nat.le_refl _) (by omega)
      rw [xat_eq hi] at h1; omega
  · rintro ⟨h1, h2⟩
    rw [← cmpI_eq h2]; exact xat_mem h1
set_option maxHeartbeats 4000000 in
set_option maxRecDepth 100000 in
theorem BinSearch_c (v vx : Value) (us : List Value) (A : List (List Int)) (p : List Int) (w : World) (hv : RII w v us A) (hx : RdI w vx p) (hlen : A.length ≤ 4294967296) (hA : StrA A) :
    Calls Try.prog 45 #[v, vx, .func (.func 44) #[] #[]] w (GivesBS w A p) := by
  have hln := hv.len
  have hix := hv.ixe
  have hcf := callG_cmp
  have KC := fun j hj => Lib.hid (Compare_c _ _ _ _ w (hv.row j hj) hx)
  have HA := Lib.hid hA
  clear hA
  go_enter Try.func45, Try.ntmps45
  go_wp2_with fail
  go_loopw [9, 10, 11] (fun i j _ wr => ∃ lo hi : Nat, i = .int .i64 lo ∧ j = .int .i64 hi ∧ Hid (BsI A p lo hi) ∧ w = wr) (fun i j _ _ => (intOf j - intOf i).toNat)
  case atStart => exact ⟨0, A.length, rfl, rfl, ⟨by omega, by omega, fun i hi => by omega, fun i h1 h2 => by omega⟩, rfl⟩
  case round =>
    obtain ⟨lo, hi, rfl, rfl, hI, rfl⟩ := hrel
    have h2 := hI.out.le
    have h3 := hI.out.hl
    by_cases hlt : lo < hi
    · obtain ⟨m, hm⟩ : ∃ m, (lo + hi) / 2 = m := ⟨_, rfl⟩
      have hml : lo ≤ m ∧ m < hi := by omega
      have hm1 : ((lo : Int) + (hi : Int)) / 2 = (m : Int) := by omega
      have hxm := hix (m : Int) m rfl (by omega)
      have hcm := hv.cell m (by omega)
      have KC := KC m (by omega)
      clear hm
      by_cases hc : cmpI (xat A m) p < 0
      · have HN := Lib.hid (hI.out.low HA.out hml.1 hml.2 hc)
        generalize cmpI (xat A m) p = z at KC hc
        go_wp2_with (go_at_call 44; refine KC.out.mono ?_; rintro e2 w4 ⟨rfl, hw4⟩; subst hw4)
        go_roundw
        case rel => exact ⟨m + 1, hi, by go_num, rfl, HN, by first | trivial | rfl⟩
        case measure => simp [intOf]; omega
      · have HN := Lib.hid (hI.out.high HA.out hml.1 hml.2 hc)
        generalize cmpI (xat A m) p = z at KC hc
        go_wp2_with (go_at_call 44; refine KC.out.mono ?_; rintro e2 w4 ⟨rfl, hw4⟩; subst hw4)
        go_roundw
        case rel => exact ⟨lo, m, rfl, rfl, HN, by first | trivial | rfl⟩
        case measure => simp [intOf]; omega
    · obtain rfl : hi = lo := by omega
      have HF := Lib.hid (hI.out.fin HA.out)
      by_cases hl : hi < A.length
      · have hxm := hix (hi : Int) hi rfl hl
        have hcm := hv.cell hi hl
        have KC := KC hi hl
        have hli : (hi : Int) < (A.length : Int) := by omega
        by_cases hz : cmpI (xat A hi) p = 0
        · have HD := Lib.hid (decide_eq_true (HF.out.2 ⟨hl, hz⟩))
          rw [hz] at KC
          clear hz
          go_wp2_with (go_at_call 44; refine KC.out.mono ?_; rintro e2 w4 ⟨rfl, hw4⟩; subst hw4)
          go_ret2
          exact ⟨hi, by rw [HD.out]; rfl, rfl⟩
        · have HD := Lib.hid (decide_eq_false (fun q => hz (HF.out.1 q).2))
          have fz := eq_f hz
          generalize cmpI (xat A hi) p = z at KC fz hz
          go_wp2_with (go_at_call 44; refine KC.out.mono ?_; rintro e2 w4 ⟨rfl, hw4⟩; subst hw4)
          go_ret2
          exact ⟨hi, by rw [HD.out]; rfl, rfl⟩
      · have HD := Lib.hid (decide_eq_false (fun q => hl (HF.out.1 q).1))
        have hli : ¬ (hi : Int) < (A.length : Int) := by omega
        go_wp2_with fail
        go_ret2
        exact ⟨hi, by rw [HD.out]; rfl, rfl⟩
end Go.Proofs.Ytdgmaodnkbgolaa
end

section
/- Walks: generators of a group, chosen one after the other. -/
namespace Go.Proofs.Ytdgmaodnkbgolaa
set_option linter.unusedSimpArgs false
set_option linter.unusedVariables false
open Go.RowKit
attribute [local go_sem ↓] Go.wp_at_zero Go.wp_at_succ

theorem vat_gl {us ws : List Value} {j : Nat} (h : j < us.length) : vat (us ++ ws) j = vat us j := by
  unfold vat; rw [List.getD_eq_getElem?_getD, List.getElem?_append_left h, ← List.getD_eq_getElem?_getD]
theorem vat_gr {us : List Value} {u : Value} {j : Nat} (h : us.length = j) : vat (us ++ [u]) j = u := by
  subst h; unfold vat; simp
def GivesBT (w : World) (b : Bool) (e : Ending) (w' : World) : Prop := ∃ a : Nat, e = .returned (.tuple #[.int .i64 a, .bool b]) ∧ w = w'
theorem BinSearch_b (b : Bool) (v vx : Value) (us : List Value) (A : List (List Int)) (p : List Int) (w : World) (hv : RII w v us A) (hx : RdI w vx p) (hlen : A.length ≤ 4294967296) (hA : StrA A) (hb : decide (p ∈ A) = b) :
    Calls Try.prog 45 #[v, vx, .func (.func 44) #[] #[]] w (GivesBT w b) := by
  refine (BinSearch_c v vx us A p w hv hx hlen hA).mono ?_
  rintro e w' ⟨a, he, hw⟩
  exact ⟨a, by rw [he, hb], hw⟩
/-- generators, all elements, and true -/
def MakesCh (w : World) (n : Nat) (A : List (List Int)) (e : Ending) (w' : World) : Prop := ∃ vg ug G va ua, e = .returned (.tuple #[vg, va, .bool true]) ∧ ClO n G A ∧ (∀ g ∈ G, g ∈ A) ∧ 2 ^ G.length ≤ A.length ∧ RII w' vg ug G ∧ RII w' va ua A ∧ St w.heap.size w w' []
/-- the generators so far -/
structure ChI (n : Nat) (A G R : List (List Int)) (t : Nat) : Prop where
  cl : ClO n G R
  sub : ∀ g ∈ G, g ∈ A
  all : ∀ j, j < t → xat A j ∈ R
  two : 2 ^ G.length ≤ R.length
section
variable {n t : Nat} {A G R R' : List (List Int)}
theorem ChI.start (h : ClO n [] R) : ChI n A [] R 0 := ⟨h, fun g hg => by simp at hg, fun j hj => by omega, List.length_pos_of_mem ((h.2 _).2 Gen.one)⟩
theorem ChI.old (h : ChI n A G R t) (hm : xat A t ∈ R) : ChI n A G R (t + 1) := ⟨h.cl, h.sub, fun j hj => by
  by_cases e : j = t
  · subst e; exact hm
  · exact h.all j (by omega), h.two⟩
theorem ChI.new (h : ChI n A G R t) (hA : Grp n A) (ht : t < A.length) (hm : xat A t ∉ R) (hR : ClO n (G ++ [xat A t]) R') : ChI n A (G ++ [xat A t]) R' (t + 1) := by
  have hp : ∀ g ∈ G, Prm n g := fun g hg => hA.prm g (h.sub g hg)
  have hq := hA.prm _ (xat_mem ht)
  have hS' : ∀ g ∈ G ++ [xat A t], Prm n g := fun g hg => by
    rcases List.mem_append.1 hg with hg | hg
    · exact hp g hg
    · rw [List.mem_singleton.1 hg]; exact hq
  refine ⟨hR, fun g hg => ?_, fun j hj => ?_, ?_⟩
  · rcases List.mem_append.1 hg with hg | hg
    · exact h.sub g hg
    · rw [List.mem_singleton.1 hg]; exact xat_mem ht
  · by_cases e : j = t
    · subst e; exact (hR.2 _).2 (Gen.of_mem hS' (by simp))
    · exact (hR.2 _).2 (((h.cl.2 _).1 (h.all j (by omega))).mono fun g hg => by simp [hg])
  · have := h.cl.double hp hq hR hm
    rw [List.length_append, List.length_singleton, Nat.pow_succ]
    have := h.two; omega
theorem ChI.fin (h : ChI n A G R A.length) (hA : Grp n A) : R = A := h.cl.all hA h.sub fun p hp => by
  obtain ⟨j, hj, rfl⟩ := List.getElem_of_mem hp
  rw [← xat_eq hj]; exact h.all j hj
theorem ChI.len (h : ChI n A G R t) (hA : Grp n A) : G.length < R.length ∧ R.length ≤ A.length := ⟨by have := Nat.lt_two_pow_self (n := G.length); have := h.two; omega, h.cl.le hA h.sub⟩
end
set_option maxHeartbeats 32000000 in
set_option maxRecDepth 100000 in
theorem chosen_c (n : Nat) (v : Value) (us : List Value) (A : List (List Int)) (w : World) (hv : RII w v us A) (hn : 1 ≤ n ∧ n ≤ 32) (hA : Grp n A) (hl : A.length ≤ 720) :
    Calls Try.prog 20 #[.int .i64 n, v] w (MakesCh w n A) := by
  have hln := hv.len
  have hix := hv.ixe
  have hnil : RII w (.slice none 0 0) [] [] := ⟨Rd.nil w, rfl, fun j hj => by simp at hj⟩
  have K0 := Lib.hid (closure_c n (.slice none 0 0) [] [] A w hnil hn hA (fun g hg => by simp at hg) hl)
  have KC := Lib.hid (fun W vg ug G (h : RII W vg ug G) (hs : ∀ g ∈ G, g ∈ A) => closure_c n vg ug G A W h hn hA hs hl)
  have Hv := Lib.hid hv
  have HA := Lib.hid hA
  clear hv hA hnil hn
  go_enter Try.func20, Try.ntmps20
  go_wp2_with fail
  refine K0.out.mono ?_
  clear K0
  rintro e w1 ⟨va, ua, R, rfl, hla, hcl, h1⟩
  have hI0 : Hid (ChI n A [] R 0 ∧ ua.length = R.length ∧ ([] : List Value).length = ([] : List (List Int)).length ∧ ∀ j, j < ([] : List (List Int)).length → RdI w (vat [] j) (xat [] j)) := Lib.hid ⟨ChI.start hcl, hla, rfl, fun j hj => by simp at hj⟩
  have hS1 := (h1.newnil 32).perm (L' := row 32 (.slice none 0 0) [] :: own2 va ua R) List.perm_append_comm
  clear h1 hla hcl
  go_wp2_with fail
  go_loopw [21, 7, 8, 9, 11, 12, 13] (fun ti vg va ok _ _ _ wr => ∃ (t : Nat) (ug ua : List Value) (G R : List (List Int)), ti = .int .i64 t ∧ t ≤ A.length ∧ ok = .bool true ∧ Hid (ChI n A G R t ∧ ua.length = R.length ∧ ug.length = G.length ∧ ∀ j, j < G.length → RdI w (vat ug j) (xat G j)) ∧ St w.heap.size w wr (row 32 vg ug :: own2 va ua R)) (fun ti _ _ _ _ _ _ _ => A.length - (intOf ti).toNat)
  case atStart => exact ⟨0, [], ua, [], R, rfl, by omega, rfl, hI0, hS1⟩
  case round =>
    clear hI0 hS1
    obtain ⟨t, ug, ua, G, R, rfl, ht, rfl, hI, hS⟩ := hrel
    obtain ⟨hg1, hg2⟩ := hI.out.1.len HA.out
    by_cases htA : t < A.length
    · have hti : (t : Int) < (A.length : Int) := by omega
      have xt := hix (t : Int) t rfl htA
      have ct := (hS.oldII Hv.out).cell t htA
      have hra := (hS.sub (List.sublist_cons_self _ _)).rii hI.out.2.1
      have hrp := (hS.oldII Hv.out).row t htA
      have KB := fun b hb => Lib.hid (BinSearch_b b u8 (vat us t) ua R (xat A t) wr hra hrp (by omega) hI.out.1.cl.1 hb)
      by_cases hm : xat A t ∈ R
      · have KB := KB true (decide_eq_true hm)
        have HN : Hid (ChI n A G R (t + 1) ∧ ua.length = R.length ∧ ug.length = G.length ∧ ∀ j, j < G.length → RdI w (vat ug j) (xat G j)) := Lib.hid ⟨hI.out.1.old hm, hI.out.2⟩
        clear hm hra hrp hI
        go_wp2_with fail
        refine KB.out.mono ?_
        clear KB
        rintro e2 w2 ⟨a2, rfl, hw⟩
        subst hw
        go_wp2_with fail
        go_roundw
        case rel => exact ⟨t + 1, ug, ua, G, R, by go_num, by omega, rfl, HN, hS⟩
        case measure => simp [intOf]; omega
      · have KB := KB false (decide_eq_false hm)
        have hrw := Lib.hid (Hv.out.row t htA)
        have Hnew := Lib.hid (fun R' (hR : ClO n (G ++ [xat A t]) R') => hI.out.1.new HA.out htA hm hR)
        have hN := Lib.hid (show ug.length < 4294967296 by rw [hI.out.2.2.1]; omega)
        obtain ⟨ap, cp, hsh⟩ := hrp.sl.sh
        rw [iv_len, (HA.out.prm _ (xat_mem htA)).2] at hsh
        rw [hsh] at ct KB hrw
        obtain ⟨pv, hpv⟩ : ∃ pv : Value, pv = .slice ap n cp := ⟨_, rfl⟩
        rw [← hpv] at hrw
        have HG : Hid (∀ g ∈ G ++ [xat A t], g ∈ A) := Lib.hid (fun g hg => by
          rcases List.mem_append.1 hg with hg | hg
          · exact hI.out.1.sub g hg
          · rw [List.mem_singleton.1 hg]; exact xat_mem htA)
        have Hug : Hid ((ug ++ [pv]).length = (G ++ [xat A t]).length ∧ ∀ j, j < (G ++ [xat A t]).length → RdI w (vat (ug ++ [pv]) j) (xat (G ++ [xat A t]) j)) := Lib.hid ⟨by rw [List.length_append, List.length_append, hI.out.2.2.1]; rfl, fun j hj => by
          have hul := hI.out.2.2.1
          by_cases e : j < G.length
          · rw [xat_appL e, vat_gl (show j < ug.length by omega)]
            exact hI.out.2.2.2 j e
          · obtain rfl : j = G.length := by rw [List.length_append, List.length_singleton] at hj; omega
            rw [show xat (G ++ [xat A t]) G.length = xat A t from by rw [xat_eq (by simp)]; simp, vat_gr hul]
            exact hrw.out⟩
        rw [hpv] at Hug
        clear hm hra hrp hI hsh hrw hpv
        generalize G ++ [xat A t] = G2 at *
        go_wp2_with fail
        refine KB.out.mono ?_
        clear KB
        rintro e2 w2 ⟨a2, rfl, hw⟩
        subst hw
        go_wp2_with (at_builtin; refine appII hS 0 rfl hN.out rfl _ _ rfl rfl _ rfl (by first | rfl | simp [Act.eval, World.size_alloc]) ?_; intro v3 w3 hS3; simp only [List.set_cons_zero] at hS3)
        refine (KC.out w3 v3 _ G2 ⟨hS3.rd 0 rfl, Hug.out.1, fun j hj => hS3.oldI (Hug.out.2 j hj)⟩ HG.out).mono ?_
        rintro e4 w4 ⟨va4, ua4, R4, rfl, hla4, hcl4, h4⟩
        have hS4 := (hS3.sub (L' := [row 32 v3 (ug ++ [Value.slice ap n cp])]) ((List.nil_sublist _).cons_cons _)).call h4
        have HN : Hid (ChI n A G2 R4 (t + 1) ∧ ua4.length = R4.length ∧ (ug ++ [Value.slice ap n cp]).length = G2.length ∧ ∀ j, j < G2.length → RdI w (vat (ug ++ [Value.slice ap n cp]) j) (xat G2 j)) := Lib.hid ⟨Hnew.out R4 hcl4, hla4, Hug.out.1, Hug.out.2⟩
        clear hS hS3 h4 hla4 hcl4
        go_wp2_with fail
        go_roundw
        case rel => exact ⟨t + 1, _, ua4, G2, R4, by go_num, by omega, rfl, HN, hS4⟩
        case measure => simp [intOf]; omega
    · obtain rfl : t = A.length := by omega
      have hRA := hI.out.1.fin HA.out
      have hrg : RII wr u7 ug G := ⟨hS.rd 0 rfl, hI.out.2.2.1, fun j hj => hS.oldI (hI.out.2.2.2 j hj)⟩
      have hra := (hS.sub (List.sublist_cons_self _ _)).rii hI.out.2.1
      have HI := Lib.hid (And.intro hI.out.1.cl (And.intro hI.out.1.sub (And.intro hI.out.1.two (And.intro hrg hra))))
      rw [hRA] at HI
      have hout := hS.out
      clear hI hRA hrg hra hS hg1 hg2
      go_wp2_with fail
      refine bodyPost_ret (v := .tuple #[u7, u8, .bool true]) (by simp [results, Try.results20, go_sem]) rfl ?_
      exact ⟨u7, ug, G, u8, ua, rfl, HI.out.1, HI.out.2.1, HI.out.2.2.1, HI.out.2.2.2.1, HI.out.2.2.2.2, hout⟩
end Go.Proofs.Ytdgmaodnkbgolaa
end

section
/- Walks: generators of a group, by the reference. -/
namespace Go.Proofs.Ytdgmaodnkbgolaa
set_option linter.unusedSimpArgs false
set_option linter.unusedVariables false
open Go.RowKit
attribute [local go_sem ↓] Go.wp_at_zero Go.wp_at_succ

def MakesGG (w : World) (e : Ending) (w' : World) : Prop := ∃ vo, e = .returned (.tuple #[vo, .bool true]) ∧ St w.heap.size w w' []
set_option maxHeartbeats 16000000 in
set_option maxRecDepth 100000 in
theorem l05Generators_c (n : Nat) (v : Value) (us : List Value) (A : List (List Int)) (w : World) (hv : RII w v us A) (hn : n ≤ 32) (hA : Grp n A) (hl : A.length ≤ 720) :
    Calls Try.prog 58 #[.int .i64 n, v] w (MakesGG w) := by
  have hln := hv.len
  have hix := hv.ixe
  have Hv := Lib.hid hv
  have HA := Lib.hid hA
  have hpos := hA.pos
  have hS0 : St w.heap.size w _ (own2 (.slice (some ⟨w.heap.size, 0, none⟩) 0 0) [] []) := St.emp0II (w := w)
  have K0 := Lib.hid (l05Close_c n 1 (.slice (some ⟨w.heap.size, 0, none⟩) 0 0) [] [] _ (hS0.rii rfl) (fun g hg => by simp at hg) hn (by omega) (by omega))
  rw [show ((1 : Nat) : Int) = (1 : Int) from rfl] at K0
  clear hv hA
  go_enter Try.func58, Try.ntmps58
  go_wp2_with fail
  refine K0.out.mono ?_
  clear K0
  rintro e w1 (⟨vh, uh, R, rfl, rh, hcl, hRl, h1⟩ | ⟨_, hbig, _⟩)
  · have hS1 := hS0.call0 h1
    have hI0 : Hid (ChI n A [] R 0 ∧ ([] : List Value).length = ([] : List (List Int)).length) := Lib.hid ⟨ChI.start hcl, rfl⟩
    clear hS0 h1 hcl
    go_wp2_with fail
    go_loopw [6, 7, 9, 10, 11, 12, 13] (fun o vh ti _ _ _ _ wr => ∃ (t : Nat) (uo uh : List Value) (G R : List (List Int)), ti = .int .i64 t ∧ t ≤ A.length ∧ Hid (ChI n A G R t ∧ uo.length = G.length) ∧ Hid (RII wr vh uh R) ∧ St w.heap.size w wr (own2 o uo G)) (fun _ _ ti _ _ _ _ _ => A.length - (intOf ti).toNat)
    case atStart => exact ⟨0, [], uh, [], R, rfl, by omega, hI0, rh, hS1⟩
    case round =>
      clear hI0 hS1 rh
      obtain ⟨t, uo, uh, G, R, rfl, ht, hI, hR, hS⟩ := hrel
      obtain ⟨hg1, hg2⟩ := hI.out.1.len HA.out
      by_cases htA : t < A.length
      · have hti : (t : Int) < (A.length : Int) := by omega
        have xt := hix (t : Int) t rfl htA
        have ct := (hS.oldII Hv.out).cell t htA
        have hrp := (hS.oldII Hv.out).row t htA
        have KF := Lib.hid (l05Find_c u7 (vat us t) uh R (xat A t) wr hR.out hrp (by omega))
        clear hrp
        go_wp2_with fail
        refine KF.out.mono ?_
        clear KF
        rintro e2 w2 ⟨m, b, rfl, hf, h2⟩
        have hS2 := hS.call0 h2
        have ct := (hS2.oldII Hv.out).cell t htA
        have HF := Lib.hid hf
        cases b
        · have hm : xat A t ∉ R := fun q => by have := (HF.out.mem hI.out.1.cl.1 q).1; cases this
          have KO := Lib.hid (l00Own_c (vat us t) (xat A t) w2 ((hS2.oldII Hv.out).row t htA) (by rw [(HA.out.prm _ (xat_mem htA)).2]; omega))
          have Hnew := Lib.hid (fun R' (hR : ClO n (G ++ [xat A t]) R') => hI.out.1.new HA.out htA hm hR)
          have hN := Lib.hid (show uo.length < 4294967296 by rw [hI.out.2]; omega)
          have hul := Lib.hid hI.out.2
          have hpl := Lib.hid (HA.out.prm _ (xat_mem htA))
          have HG : Hid (∀ g ∈ G ++ [xat A t], g ∈ A) := Lib.hid (fun g hg => by
            rcases List.mem_append.1 hg with hg | hg
            · exact hI.out.1.sub g hg
            · rw [List.mem_singleton.1 hg]; exact xat_mem htA)
          clear hm hS h2 hR hf hI
          generalize xat A t = p at *
          go_wp2_with fail
          refine KO.out.mono ?_
          clear KO
          rintro e3 w3 ⟨vp, rfl, h3⟩
          obtain ⟨ap, cp, hsh⟩ := (h3.rdI 0 rfl).sl.sh
          rw [iv_len, hpl.out.2] at hsh
          subst hsh
          have hS3 := hS2.call h3
          clear hS2 h3 ct
          go_wp2_with (at_builtin; refine appII hS3 0 rfl hN.out rfl _ _ rfl rfl _ rfl (by first | rfl | simp [Act.eval, World.size_alloc]) ?_; intro v4 w4 hS4)
          rw [own2_snocM hul.out] at hS4
          have hlG : (uo ++ [Value.slice ap n cp]).length = (G ++ [p]).length := by rw [List.length_append, List.length_append, hul.out]; rfl
          refine (l05Close_c n A.length v4 _ (G ++ [p]) w4 (hS4.rii hlG) (fun g hg => HA.out.prm g (HG.out g hg)) hn (by omega) (by omega)).mono ?_
          have HlG := Lib.hid hlG
          clear hlG
          rintro e5 w5 (⟨vh5, uh5, R5, rfl, rh5, hcl5, _, h5⟩ | ⟨_, hbig, _⟩)
          · have hS5 := hS4.call0 h5
            have HI5 : Hid (ChI n A (G ++ [p]) R5 (t + 1) ∧ (uo ++ [Value.slice ap n cp]).length = (G ++ [p]).length) := Lib.hid ⟨Hnew.out R5 hcl5, HlG.out⟩
            have HR5 := Lib.hid rh5
            clear hS4 h5 rh5 hcl5
            go_wp2_with fail
            go_roundw
            case rel => exact ⟨t + 1, _, uh5, _, R5, by go_num, by omega, HI5, HR5, hS5⟩
            case measure => simp [intOf]; omega
          · exact absurd (hbig A HA.out HG.out) (by omega)
        · have HI2 : Hid (ChI n A G R (t + 1) ∧ uo.length = G.length) := Lib.hid ⟨hI.out.1.old (by have := HF.out.2.1 rfl; rw [← this.2]; exact xat_mem this.1), hI.out.2⟩
          have HR2 := Lib.hid (hR.out.keep h2.below)
          clear hI hR hf h2 hS
          go_wp2_with fail
          go_roundw
          case rel => exact ⟨t + 1, uo, uh, G, R, by go_num, by omega, HI2, HR2, hS2⟩
          case measure => simp [intOf]; omega
      · obtain rfl : t = A.length := by omega
        have hRA := hI.out.1.fin HA.out
        have KS := Lib.hid (show Calls Try.prog 25 #[u7, v] wr (GivesB wr true) from by
          have := l10Same_c u7 v uh us R A wr hR.out (hS.oldII Hv.out)
          rwa [decide_eq_true hRA] at this)
        have hout := hS.out
        clear hI hR hRA hS
        go_wp2_with fail
        refine KS.out.mono ?_
        clear KS
        rintro e9 w9 ⟨rfl, h9⟩
        have hout2 := hout.call0 h9
        go_wp2_with fail
        go_ret2
        exact ⟨_, rfl, hout2⟩
  · exact absurd (hbig [iot n] ⟨by unfold StrA; simp, fun p hp => by rw [List.mem_singleton.1 hp]; exact Prm.one n, by simp, fun p q hp hq => by
      rw [List.mem_singleton.1 hp, List.mem_singleton.1 hq, iot_cmp (iot_len n)]; simp⟩ (fun g hg => by simp at hg)) (by simp)
end Go.Proofs.Ytdgmaodnkbgolaa
end

section
/- Slices of slices of slices of integers: what they read as, what a call owns, and the law's functions on them. -/
namespace Go.Proofs.Ytdgmaodnkbgolaa
set_option linter.unusedSimpArgs false
set_option linter.unusedVariables false
open Go.RowKit

def x3at (X : List (List (List Int))) (k : Nat) : List (List Int) := X.getD k []
theorem x3at_set {X : List (List (List Int))} {j k : Nat} {x : List (List Int)} (h : j < X.length) : x3at (X.set j x) k = if j = k then x else x3at X k := by
  unfold x3at
  rw [List.getD_eq_getElem?_getD, List.getElem?_set]
  split
  · rename_i e; subst e; simp [h]
  · simp [List.getD_eq_getElem?_getD]
/-- what is read -/
def RIII (w : World) (v : Value) (vs : List Value) (uss : List (List Value)) (X : List (List (List Int))) : Prop :=
  Rd w v vs ∧ vs.length = X.length ∧ ∀ k, k < X.length → RII w (vat vs k) (vsat uss k) (x3at X k)
section
variable {w w' : World} {v : Value} {vs : List Value} {uss : List (List Value)} {X : List (List (List Int))}
theorem RIII.le (h : RIII w v vs uss X) : X.length ≤ 9223372036854775807 := by have := h.1.sl.le; rwa [h.2.1] at this
theorem RIII.cell (h : RIII w v vs uss X) (j : Nat) (hj : j < X.length) : w.cell? (el v j) = some (vat vs j) := Rd.cell h.1 (by rw [h.2.1]; exact hj)
theorem RIII.row (h : RIII w v vs uss X) (j : Nat) (hj : j < X.length) : RII w (vat vs j) (vsat uss j) (x3at X j) := h.2.2 j hj
theorem RIII.keep (h : RIII w v vs uss X) (hb : Below w.heap.size w w') : RIII w' v vs uss X := ⟨h.1.keep hb, h.2.1, fun j hj => (h.2.2 j hj).keep hb⟩
end
/-! ### what is owned -/
section
variable {v : Value} {vs : List Value} {uss : List (List Value)} {X : List (List (List Int))} {L2 : List Ent} {j : Nat}
end
/-- the lengths fit -/
def Fit3 (vs : List Value) (uss : List (List Value)) (X : List (List (List Int))) : Prop := vs.length = X.length ∧ uss.length = X.length ∧ ∀ k, k < X.length → (vsat uss k).length = (x3at X k).length
theorem Fit3.set {vs : List Value} {uss : List (List Value)} {X : List (List (List Int))} (h : Fit3 vs uss X) {j : Nat} (hj : j < X.length) {x : List (List Int)} (hx : x.length = (x3at X j).length) : Fit3 vs uss (X.set j x) :=
  ⟨by simpa using h.1, by simpa using h.2.1, fun k hk => by
    rw [x3at_set hj]
    simp only [List.length_set] at hk
    by_cases e : j = k
    · rw [if_pos e, hx]; subst e; exact h.2.2 j hj
    · rw [if_neg e]; exact h.2.2 k hk⟩

/-! ### the law's functions -/
end Go.Proofs.Ytdgmaodnkbgolaa
end

section
/- Walks: squares that are made. -/
namespace Go.Proofs.Ytdgmaodnkbgolaa
set_option linter.unusedSimpArgs false
set_option linter.unusedVariables false
open Go.RowKit
section
variable {ops : Array Oper} {rest : List Oper} {o : Oper} {a : Act} {Q : Exit → Act → World → Prop} {B : Nat} {w0 w : World} {L : List Ent}
end
/-- a square by its entries -/
def sqF (n : Nat) (f : Nat → Nat → Int) : List (List Int) := (List.range n).map fun x => tab n (f x)
theorem sqF_len (n : Nat) (f : Nat → Nat → Int) : (sqF n f).length = n := by simp [sqF]
theorem xat_sqF {n : Nat} {f : Nat → Nat → Int} {x : Nat} (h : x < n) : xat (sqF n f) x = tab n (f x) := by simp [sqF, xat, h]
end Go.Proofs.Ytdgmaodnkbgolaa
end

section
/- Latin squares as lists of lists, their isotopes. In plain terms. -/
namespace Go.Proofs.Ytdgmaodnkbgolaa
set_option linter.unusedSimpArgs false
set_option linter.unusedVariables false
/-- the entry of a place -/
def at2 (A : List (List Int)) (x y : Nat) : Int := nth (xat A x) y
/-- a square of n rows and columns -/
structure Sqr (n : Nat) (A : List (List Int)) : Prop where
  len : A.length = n
  row : ∀ x, x < n → (xat A x).length = n
def colL (A : List (List Int)) (y : Nat) : List Int := A.map fun r => nth r y
/-- a Latin square of at most 10 rows -/
structure Lat (A : List (List Int)) : Prop where
  pos : 1 ≤ A.length
  le : A.length ≤ 10
  len : ∀ x, x < A.length → (xat A x).length = A.length
  row : ∀ x, x < A.length → IsP (xat A x)
  col : ∀ y, y < A.length → IsP (colL A y)
theorem sq_ext {n : Nat} {A B : List (List Int)} (hA : Sqr n A) (hB : Sqr n B) (h : ∀ x y, x < n → y < n → at2 A x y = at2 B x y) : A = B := by
  apply List.ext_getElem (hA.len.trans hB.len.symm)
  intro x h1 h2
  have hx : x < n := by rw [← hA.len]; exact h1
  have e1 : A[x] = xat A x := by simp [xat, h1]
  have e2 : B[x] = xat B x := by simp [xat, h2]
  rw [e1, e2]
  refine nth_ext (by rw [hA.row x hx, hB.row x hx]) fun y hy => h x y hx (by rw [← hA.row x hx]; exact hy)
theorem sq_ext2 {n : Nat} {A B : List (List Int)} {r c : List Int} (hr : IsP r) (hc : IsP c) (hrl : r.length = n) (hcl : c.length = n) (hA : Sqr n A) (hB : Sqr n B)
    (h : ∀ x y, x < n → y < n → at2 A (pf r x) (pf c y) = at2 B (pf r x) (pf c y)) : A = B := by
  refine sq_ext hA hB fun x y hx hy => ?_
  obtain ⟨x', hx', rfl⟩ := hr.bij.onto (y := x) (by omega)
  obtain ⟨y', hy', rfl⟩ := hc.bij.onto (y := y) (by omega)
  exact h x' y' (by omega) (by omega)
theorem at2_sqF {n : Nat} {f : Nat → Nat → Int} {x y : Nat} (hx : x < n) (hy : y < n) : at2 (sqF n f) x y = f x y := by
  unfold at2; rw [xat_sqF hx]; simp [tab, nth, hy]
theorem sqF_sqr (n : Nat) (f : Nat → Nat → Int) : Sqr n (sqF n f) := ⟨sqF_len n f, fun x hx => by rw [xat_sqF hx, tab_len]⟩
/-! ### isotopes -/
def isoL (A : List (List Int)) (r c s : List Int) : List (List Int) := sqF A.length fun x y => nth s (at2 A (pf (invL r) x) (pf (invL c) y)).toNat
theorem pf_invL {xs : List Int} (h : IsP xs) {j : Nat} (hj : j < xs.length) : pf (invL xs) (pf xs j) = j := by unfold pf; rw [show nth (invL xs) (nth xs j).toNat = j from nth_invL h hj]; rfl
theorem isoL_sqr (A : List (List Int)) (r c s : List Int) : Sqr A.length (isoL A r c s) := sqF_sqr _ _
theorem isoL_at {A : List (List Int)} {r c s : List Int} (hr : IsP r) (hc : IsP c) (hrl : r.length = A.length) (hcl : c.length = A.length) {x y : Nat} (hx : x < A.length) (hy : y < A.length) :
    at2 (isoL A r c s) (pf r x) (pf c y) = nth s (at2 A x y).toNat := by
  have h1 : pf r x < A.length := by rw [← hrl]; exact hr.pf_lt (by omega)
  have h2 : pf c y < A.length := by rw [← hcl]; exact hc.pf_lt (by omega)
  unfold isoL
  rw [at2_sqF h1 h2, pf_invL hr (by omega), pf_invL hc (by omega)]
/-- the isotope, made as far as place y of row x -/
structure IsoP (A : List (List Int)) (r c s : List Int) (x y : Nat) (S : List (List Int)) : Prop where
  sqr : Sqr A.length S
  at' : ∀ x' y', x' < A.length → y' < A.length → (x' < x ∨ x' = x ∧ y' < y) → at2 S (pf r x') (pf c y') = nth s (at2 A x' y').toNat
section
variable {A : List (List Int)} {r c s : List Int}
theorem IsoP.start : IsoP A r c s 0 0 (sqF A.length fun _ _ => 0) := ⟨sqF_sqr _ _, fun _ _ _ _ h => by omega⟩
theorem IsoP.next {x : Nat} {S : List (List Int)} (h : IsoP A r c s x A.length S) : IsoP A r c s (x + 1) 0 S :=
  ⟨h.sqr, fun x' y' hx' hy' hl => h.at' x' y' hx' hy' (by omega)⟩
theorem IsoP.done (hr : IsP r) (hc : IsP c) (hrl : r.length = A.length) (hcl : c.length = A.length) {S : List (List Int)} (h : IsoP A r c s A.length 0 S) : S = isoL A r c s :=
  sq_ext2 hr hc hrl hcl h.sqr (isoL_sqr A r c s) fun x y hx hy => by
    rw [h.at' x y hx hy (.inl hx), isoL_at hr hc hrl hcl hx hy]
end
end Go.Proofs.Ytdgmaodnkbgolaa
end

section
/- Slices of truth values. -/
namespace Go.Proofs.Ytdgmaodnkbgolaa
set_option linter.unusedSimpArgs false
set_option linter.unusedVariables false
open Go.RowKit
/-- the cells of a list of truth values -/
def bo (xs : List Bool) : List Value := xs.map Value.bool
/-- element j -/
def bat (xs : List Bool) (j : Nat) : Bool := xs.getD j false
theorem bo_len (xs : List Bool) : (bo xs).length = xs.length := by simp [bo]
theorem bo_get {xs : List Bool} {j : Nat} (h : j < xs.length) : (bo xs).getD j undef = .bool (bat xs j) := by
  simp [bo, bat, List.getD, List.getElem?_eq_getElem h]
theorem bat_rep (n j : Nat) : bat (List.replicate n false) j = false := by
  unfold bat
  rw [List.getD_eq_getElem?_getD, List.getElem?_replicate]; split <;> rfl
def RdO (w : World) (v : Value) (xs : List Bool) : Prop := Rd w v (bo xs)
section
variable {w w' : World} {v : Value} {xs : List Bool}
theorem RdO.le (h : RdO w v xs) : xs.length ≤ 9223372036854775807 := by have := h.sl.le; rwa [bo_len] at this
theorem RdO.cell (h : RdO w v xs) (j : Nat) (hj : j < xs.length) : w.cell? (el v j) = some (.bool (bat xs j)) := by
  rw [Rd.cell h (by rw [bo_len]; exact hj), bo_get hj]
theorem RdO.keep (h : RdO w v xs) (hb : Below w.heap.size w w') : RdO w' v xs := Rd.keep h hb
end
section
variable {ops : Array Oper} {rest : List Oper} {o : Oper} {a : Act} {Q : Exit → Act → World → Prop} {B : Nat} {w0 w : World} {L : List Ent}
end
end Go.Proofs.Ytdgmaodnkbgolaa
end

section
/- Walks: the cycles of a permutation. Walks: SignOf; the law FnPermutations. Walks: CyclesOf, SignOf and OrderOfPermutation of any list, powers, permutations made of cycles, types. -/
namespace Go.Proofs.Ytdgmaodnkbgolaa
set_option linter.unusedSimpArgs false
set_option linter.unusedVariables false
open Go.RowKit
attribute [local go_sem ↓] Go.wp_at_zero Go.wp_at_succ
/-- what is seen: all cycles that numbers below m lead, and the first j numbers of that of m -/
def Seen (xs : List Int) (m j : Nat) (s : List Bool) : Prop := s.length = xs.length ∧ ∀ y, y < xs.length → (bat s y = true ↔ y ∈ (cycs xs.length (pf xs) m).flatten ∨ ∃ i, i < j ∧ y = it (pf xs) i m)
theorem Seen.start (xs : List Int) : Seen xs 0 0 (List.replicate xs.length false) := ⟨by simp, fun y hy => by rw [bat_rep]; simp [cycs]⟩
theorem Seen.back {xs : List Int} {m : Nat} {s : List Bool} (h : Seen xs m (clen xs.length (pf xs) m) s) (hp : IsP xs) (hm : m < xs.length) (hL : Lead (pf xs) m) : bat s (it (pf xs) (clen xs.length (pf xs) m) m) = true ∧ Seen xs (m + 1) 0 s := by
  have hc := clen_ok hp.bij hm
  have hb := hc.back
  refine ⟨?_, h.1, fun y hy => ?_⟩
  · rw [hb]; exact (h.2 m hm).2 (.inr ⟨0, hc.pos, rfl⟩)
  · rw [h.2 y hy, cycs, if_pos hL]
    simp only [List.flatten_append, List.flatten_cons, List.flatten_nil, List.append_nil, List.mem_append]
    constructor
    · rintro (h1 | ⟨i, hi, rfl⟩)
      · exact .inl (.inl h1)
      · exact .inl (.inr ((mem_cycL hp.bij hm).2 ⟨i, rfl⟩))
    · rintro ((h1 | h1) | ⟨i, hi, _⟩)
      · exact .inl h1
      · unfold cycL at h1
        obtain ⟨i, hi, rfl⟩ := List.mem_map.1 h1
        exact .inr ⟨i, List.mem_range.1 hi, rfl⟩
      · omega
/-! ### the least common multiple, bounded -/
theorem sz_c (v : Value) (xs : List Int) (w : World) (hv : RdI w v xs) : Calls Try.prog 47 #[v] w fun e w' => e = .returned (.int .i64 xs.length) ∧ w = w' := by
  have hln := hv.len
  go_enter Try.func47, Try.ntmps47
  go_wp2_with fail
  go_ret
  exact ⟨rfl, rfl⟩
end Go.Proofs.Ytdgmaodnkbgolaa
end

section
/- Walks: valid Latin squares, isotopes, of the program. Walks: isotopes of the program. -/
namespace Go.Proofs.Ytdgmaodnkbgolaa
set_option linter.unusedSimpArgs false
set_option linter.unusedVariables false
open Go.RowKit
attribute [local go_sem ↓] Go.wp_at_zero Go.wp_at_succ


/-- a permutation of n numbers -/
noncomputable def pvN (n : Nat) (xs : List Int) : Bool := decide (xs.length = n) && pvB xs
set_option maxHeartbeats 2000000 in
set_option maxRecDepth 100000 in
theorem areP1_c (v : Value) (xs : List Int) (n : Nat) (g : Nat) (w : World) (hv : RdI w v xs) (hb : w.cell? ⟨g, 0, none⟩ = some (.int .i64 n)) (hN : xs.length ≤ 1048576) :
    Calls Try.prog 46 #[v, .pointer (some ⟨g, 0, none⟩)] w (GivesB w (!pvN n xs)) := by
  have hq : ∀ s : SS w.heap.size w [], s.w.cell? ⟨g, 0, none⟩ = some (.int .i64 n) := fun s => by rw [s.st.below.cell (World.block_lt_of_cell? _ _ hb)]; exact hb
  have HZ := fun s : SS w.heap.size w [] => Lib.hid (sz_c v xs s.w (s.st.oldI hv))
  have HV := fun s : SS w.heap.size w [] => Lib.hid (ValidPermutation_c v xs s.w (s.st.oldI hv) hN)
  have hS := St.refl w
  by_cases h : xs.length = n
  · have f1 : ((xs.length : Int) != (n : Int)) = false := ne_f (by omega)
    have He : Hid ((!pvN n xs) = !pvB xs) := Lib.hid (by rw [pvN, decide_eq_true h]; rfl)
    rw [He.out]
    generalize pvB xs = b at *
    clear h He
    go_enter Try.func46, Try.ntmps46
    go_wp2_with fail
    have hne : Nonempty (SS _ _ _) := ⟨⟨_, hS⟩⟩
    refine wp_region_st (by kernel_rfl) (by kernel_rfl) hS ?_
    repeat (go_big_quiet_step ((first | (go_at_call 47; exact st_quiet0 (HZ _).out) | (go_at_call 48; exact st_quiet (HV _).out))))
    refine wpQuiet_nil ?_
    rintro _ ⟨s2, rfl⟩
    have hS2 := s2.st
    generalize s2.w = w2 at hS2 ⊢
    go_wp2_with fail
    go_ret
    exact ⟨rfl, hS2⟩
  · have f1 : ((xs.length : Int) != (n : Int)) = true := ne_t (by omega)
    have He : Hid ((!pvN n xs) = true) := Lib.hid (by rw [pvN, decide_eq_false h]; rfl)
    rw [He.out]
    clear h He
    go_enter Try.func46, Try.ntmps46
    go_wp2_with fail
    have hne : Nonempty (SS _ _ _) := ⟨⟨_, hS⟩⟩
    refine wp_region_st (by kernel_rfl) (by kernel_rfl) hS ?_
    repeat (go_big_quiet_step ((first | (go_at_call 47; exact st_quiet0 (HZ _).out) | (go_at_call 48; exact st_quiet (HV _).out))))
    refine wpQuiet_nil ?_
    rintro _ ⟨s2, rfl⟩
    have hS2 := s2.st
    generalize s2.w = w2 at hS2 ⊢
    go_wp2_with fail
    go_ret
    exact ⟨rfl, hS2⟩
/-- all rows are permutations of n numbers -/
noncomputable def allP (n : Nat) (A : List (List Int)) : Bool := !anyR (fun r => !pvN n r) A
theorem allP_of {n : Nat} {A : List (List Int)} (h : ∀ x, x < A.length → (xat A x).length = n ∧ pvB (xat A x) = true) : allP n A = true := by
  unfold allP anyR
  have : A.any (fun r => !pvN n r) = false := by
    rw [List.any_eq_false]
    intro r hr
    obtain ⟨x, hx, rfl⟩ := List.getElem_of_mem hr
    have := h x hx
    rw [xat_eq hx] at this
    simp [pvN, this]
  rw [this]; rfl
set_option maxHeartbeats 2000000 in
set_option maxRecDepth 100000 in
theorem arePermutations_c (n : Nat) (v : Value) (us : List Value) (A : List (List Int)) (w : World) (hv : RII w v us A) (hN : ∀ x, x < A.length → (xat A x).length ≤ 1048576) :
    Calls Try.prog 23 #[.int .i64 n, v] w (GivesB w (allP n A)) := by
  have hS1 := (St.refl w).newboxF 2 #[.int .i64 n]
  have hcf := callFunc_go Try.func46 (by kernel_rfl) (by kernel_rfl)
  have hmf : ∀ (fn : Fn) (first cap : Array Value) (w : World), (Instr.makeFunc fn first cap).run Try.prog w = .ok (.func fn first cap) w := fun _ _ _ _ => rfl
  have hcall := Lib.hid (ContainsFuncR_c 46 #[.pointer (some ⟨w.heap.size, 0, none⟩)] (fun r => !pvN n r) v us A _ (hS1.oldII hv) hcf (fun j W hW hj => areP1_c (vat us j) (xat A j) n w.heap.size W ((hW.oldII (hS1.oldII hv)).row j hj) (by
    rw [hW.below.cell (World.block_lt_of_cell? _ _ (hS1.bcell 0 rfl 0 rfl))]; exact hS1.bcell 0 rfl 0 rfl) (hN j hj)))
  clear hcf hN
  go_enter Try.func23, Try.ntmps23
  go_wp2_with fail
  refine hcall.out.mono ?_
  rintro e w1 ⟨rfl, h1⟩
  have hS2 := hS1.call0 h1
  go_wp2_with fail
  go_ret
  exact ⟨rfl, hS2.out⟩
theorem Lat.allP {A : List (List Int)} (h : Lat A) : allP A.length A = true := allP_of fun x hx => ⟨h.len x hx, pvB_yes (by rw [h.len x hx]; have := h.le; omega) (h.row x hx)⟩
end Go.Proofs.Ytdgmaodnkbgolaa
end

section
/- Walks: a valid group, and its generators, of the program. -/
namespace Go.Proofs.Ytdgmaodnkbgolaa
set_option linter.unusedSimpArgs false
set_option linter.unusedVariables false
open Go.RowKit
attribute [local go_sem ↓] Go.wp_at_zero Go.wp_at_succ

/-- a group as a value -/
def gv (n : Int) (v : Value) : Value := .agg #[.int .i64 n, v]
theorem cell_keepG {w w' : World} (hb : Below w.heap.size w w') {p : Addr} {u : Value} (h : w.cell? p = some u) : w'.cell? p = some u := by
  rw [hb.cell (World.block_lt_of_cell? _ _ h)]; exact h
theorem Grp.allP {n : Nat} {A : List (List Int)} (h : Grp n A) (hn : n ≤ 32) : allP n A = true := by
  unfold Go.Proofs.Ytdgmaodnkbgolaa.allP anyR
  rw [Bool.not_eq_true', List.any_eq_false]
  intro x hx
  have hp := h.prm x hx
  unfold pvN
  simp [hp.2, pvB_yes (by rw [hp.2]; exact hn) hp.1]
set_option maxHeartbeats 16000000 in
set_option maxRecDepth 100000 in
theorem ValidGroup_c (n : Nat) (v : Value) (us : List Value) (A : List (List Int)) (w : World) (hv : RII w v us A) (hn : 1 ≤ n ∧ n ≤ 32) (hA : Grp n A) (hl : A.length ≤ 720) :
    Calls Try.prog 19 #[gv n v] w (GivesB w true) := by
  obtain ⟨a, c, hsh⟩ := hv.1.sl.sh
  rw [hv.2.1] at hsh
  subst hsh
  have hS0 := (St.refl w).newboxF 26 #[.int .i64 n, .slice a A.length c]
  have b0 := hS0.bcell 0 rfl 0 rfl
  have b1 := hS0.bcell 0 rfl 1 rfl
  have hln := hv.len
  have hix := hv.ixe
  have hpos := hA.pos
  have hN1 := hn.1
  have hN2 := hn.2
  have KW := Lib.hid (fun W => within_yes (n := (n : Int)) (a := 1) (b := 32) (by omega) W)
  have KP := Lib.hid (fun W (h : RII W (.slice a A.length c) us A) => arePermutations_c n (.slice a A.length c) us A W h (fun x hx => by rw [(hA.prm _ (xat_mem hx)).2]; omega))
  rw [hA.allP hN2] at KP
  have KC := Lib.hid (fun W (h : RII W (.slice a A.length c) us A) => chosen_c n (.slice a A.length c) us A W h hn hA hl)
  have HA := Lib.hid hA
  have Hv := Lib.hid hv
  have f1 : ¬ (A.length : Int) < 1 := by omega
  have f2 : ¬ (720 : Int) < (A.length : Int) := by omega
  unfold gv
  clear hv hA hn
  go_enter Try.func19, Try.ntmps19
  go_wp2_with (first
    | (go_at_call 22; refine (KW.out _).mono ?_; rintro e w1 ⟨rfl, hw⟩; subst hw)
    | (go_at_call 23; refine (KP.out _ (hS0.oldII Hv.out)).mono ?_; rintro e w2 ⟨rfl, h2⟩; have hS2 := hS0.call0 h2))
  clear b0 b1 KW KP
  go_loopw [3] (fun ki wr => ∃ (k : Nat), ki = .int .i64 k ∧ 1 ≤ k ∧ k ≤ A.length ∧ St w.heap.size w wr [box 26 w.heap.size [.int .i64 n, .slice a A.length c]]) (fun ki _ => A.length - (intOf ki).toNat)
  case atStart => exact ⟨1, rfl, by omega, by omega, hS2⟩
  case round =>
    clear hS0 hS2
    obtain ⟨k, rfl, hk1, hk, hS⟩ := hrel
    have b1 := hS.bcell 0 rfl 1 rfl
    by_cases hkA : k < A.length
    · have hki : (k : Int) < (A.length : Int) := by omega
      have xk := hix (k : Int) k rfl hkA
      have xp := hix ((k : Int) - 1) (k - 1) (by omega) (by omega)
      have w1 : IntKind.i64.wrap ((k : Int) - 1) = (k : Int) - 1 := IntWalk.i64_in _ (by omega)
      have hlt := HA.out.str.at' (show k - 1 < k by omega) hkA
      obtain ⟨L, hL⟩ : ∃ L, L = [box 26 w.heap.size [.int .i64 n, .slice a A.length c]] := ⟨_, rfl⟩
      have HL := Lib.hid hL
      have HC := Lib.hid (fun W (h : St w.heap.size w W L) => (show W.cell? ⟨w.heap.size, 1, none⟩ = some (.slice a A.length c) ∧ W.cell? (el (.slice a A.length c) k) = some (vat us k) ∧ W.cell? (el (.slice a A.length c) (k - 1)) = some (vat us (k - 1)) from by
        have hr := h.oldII Hv.out
        rw [hL] at h
        exact ⟨h.bcell 0 rfl 1 rfl, hr.cell k hkA, hr.cell (k - 1) (by omega)⟩))
      have KE := Lib.hid (fun s : SS w.heap.size w L => Compare_c (vat us (k - 1)) (vat us k) (xat A (k - 1)) (xat A k) s.w ((s.st.oldII Hv.out).row (k - 1) (by omega)) ((s.st.oldII Hv.out).row k hkA))
      rw [← hL] at hS
      have g1 := fun s : SS w.heap.size w L => (HC.out s.w s.st).1
      have g2 := fun s : SS w.heap.size w L => (HC.out s.w s.st).2.1
      have g3 := fun s : SS w.heap.size w L => (HC.out s.w s.st).2.2
      have f3 : ¬ 0 ≤ cmpI (xat A (k - 1)) (xat A k) := by omega
      have f3' : decide (0 ≤ cmpI (xat A (k - 1)) (xat A k)) = false := decide_eq_false f3
      generalize cmpI (xat A (k - 1)) (xat A k) = z at *
      clear hL hlt
      go_wp2_with fail
      have hne : Nonempty (SS _ _ _) := ⟨⟨_, hS⟩⟩
      refine wp_region_st (by kernel_rfl) (by kernel_rfl) hS ?_
      repeat (go_big_quiet_step ((go_at_call 44; exact st_quiet0 (KE.out _))))
      refine wpQuiet_nil ?_
      rintro _ ⟨s2, rfl⟩
      have hS3 := s2.st
      generalize s2.w = w3 at hS3 ⊢
      clear g1 g2 g3
      rw [HL.out] at hS3
      go_wp2_with fail
      go_roundw
      case rel => exact ⟨k + 1, by go_num, by omega, by omega, hS3⟩
      case measure => simp [intOf]; omega
    · obtain rfl : k = A.length := by omega
      have b0 := hS.bcell 0 rfl 0 rfl
      have KC2 := Lib.hid (KC.out wr (hS.oldII Hv.out))
      go_wp2_with fail
      refine KC2.out.mono ?_
      clear KC2 KC
      rintro e5 w5 ⟨vg, ug, G, va, ua, rfl, _, _, _, _, ra, h5⟩
      have hla := ra.len
      have hS5 := hS.call0 h5
      have b1 := hS5.bcell 0 rfl 1 rfl
      have f9 : ((A.length : Int) == (A.length : Int)) = true := eq_t rfl
      clear hS h5 ra b0
      go_wp2_with fail
      go_ret
      exact ⟨rfl, hS5.out⟩
end Go.Proofs.Ytdgmaodnkbgolaa
end

section
/- Walks: the permutations x to a x + b modulo n. -/
namespace Go.Proofs.Ytdgmaodnkbgolaa
set_option linter.unusedSimpArgs false
set_option linter.unusedVariables false
open Go.RowKit
attribute [local go_sem ↓] Go.wp_at_zero Go.wp_at_succ

def turF (n a b x : Nat) : Int := ((a * x + b) % n : Nat)
def turL (n a b k : Nat) : List Int := (List.range k).map (turF n a b)
theorem turL_len (n a b k : Nat) : (turL n a b k).length = k := by simp [turL]
theorem turL_succ (n a b k : Nat) : turL n a b (k + 1) = turL n a b k ++ [turF n a b k] := by simp [turL, List.range_succ]
def isPB (l : List Int) : Bool := (List.range l.length).all fun j => decide (0 ≤ nth l j ∧ nth l j ≤ l.length - 1) && !((l.take j).contains (nth l j))
theorem isPB_t {l : List Int} (h : isPB l = true) : IsP l := isP_iff2.2 fun j hj => by
  have h1 := List.all_eq_true.1 h j (List.mem_range.2 hj)
  rw [Bool.and_eq_true, decide_eq_true_eq, Bool.not_eq_true'] at h1
  refine ⟨h1.1, fun hm => ?_⟩
  rw [← List.contains_iff_mem, h1.2] at hm
  cases hm
theorem tur_ok : (∀ n ∈ ([1, 2, 3, 4, 5, 6, 7, 8, 9, 10, 11, 12, 13] : List Nat), isPB (turL n 1 1 n) = true ∧ isPB (turL n (n - 1) 0 n) = true) ∧ (∀ n ∈ ([5, 7, 11, 13] : List Nat), ∀ a ∈ ([2, 3, 4] : List Nat), isPB (turL n a 0 n) = true) := by decide +kernel
theorem tur_1 {n : Nat} (h : 1 ≤ n ∧ n ≤ 13) : Prm n (turL n 1 1 n) ∧ Prm n (turL n (n - 1) 0 n) := by
  have hm : n ∈ ([1, 2, 3, 4, 5, 6, 7, 8, 9, 10, 11, 12, 13] : List Nat) := by simp; omega
  exact ⟨⟨isPB_t (tur_ok.1 n hm).1, turL_len _ _ _ _⟩, ⟨isPB_t (tur_ok.1 n hm).2, turL_len _ _ _ _⟩⟩
theorem tur_2 {n a : Nat} (h : n ∈ ([5, 7, 11, 13] : List Nat)) (ha : a ∈ ([2, 3, 4] : List Nat)) : Prm n (turL n a 0 n) := ⟨isPB_t (tur_ok.2 n h a ha), turL_len _ _ _ _⟩
set_option maxHeartbeats 4000000 in
set_option maxRecDepth 100000 in
theorem l05Turn_c (n a b : Nat) (w : World) (hn : 1 ≤ n ∧ n ≤ 13) (ha : a ≤ 13) (hb : b ≤ 13) : Calls Try.prog 60 #[.int .i64 n, .int .i64 a, .int .i64 b] w (MakesI w (turL n a b n)) := by
  have hS0 := St.emp0 (w := w)
  obtain ⟨h1, h2⟩ := hn
  have hn0 : ¬ (n : Int) = 0 := by omega
  have hn0n : ¬ n = 0 := by omega
  have hn0b : ((n : Int) == 0) = false := eq_f hn0
  go_enter Try.func60, Try.ntmps60
  go_wp2_with fail
  go_loopw [7, 8] (fun o x wr => ∃ k : Nat, k ≤ n ∧ x = .int .i64 k ∧ St w.heap.size w wr [row 2 o (iv (turL n a b k))]) (fun _ x _ => n - (intOf x).toNat)
  case atStart => exact ⟨0, by omega, rfl, hS0⟩
  case round =>
    clear hS0
    obtain ⟨k, hk, rfl, hS⟩ := hrel
    have hkl := turL_len n a b k
    by_cases hlt : k < n
    · have hki : (k : Int) < (n : Int) := by omega
      have hak : a * k ≤ 13 * 13 := Nat.mul_le_mul ha (by omega)
      have hst := Lib.hid (turL_succ n a b k)
      have hN := Lib.hid (show (turL n a b k).length < 4294967296 by rw [turL_len]; omega)
      obtain ⟨q, hq⟩ : ∃ q, a * k = q := ⟨_, rfl⟩
      have hqi : (a : Int) * (k : Int) = (q : Int) := by rw [← hq, Int.natCast_mul]
      have w1 : IntKind.i64.wrap ((a : Int) * (k : Int)) = (q : Int) := by rw [hqi]; exact IntWalk.i64_in _ (by omega)
      have w2 : IntKind.i64.wrap ((q : Int) + (b : Int)) = (q : Int) + (b : Int) := IntWalk.i64_in _ (by omega)
      have w3 : ((q : Int) + (b : Int)).tmod (n : Int) = turF n a b k := by
        rw [Int.tmod_eq_emod_of_nonneg (by omega)]
        unfold turF
        rw [hq, Int.natCast_emod, Int.natCast_add]
      have w4 : ((q : Int) + (b : Int)) % (n : Int) = turF n a b k := by
        unfold turF
        rw [hq, Int.natCast_emod, Int.natCast_add]
      have hfb : -9223372036854775808 ≤ turF n a b k ∧ turF n a b k ≤ 9223372036854775807 := by
        have : (a * k + b) % n < n := Nat.mod_lt _ (by omega)
        unfold turF; omega
      generalize turF n a b k = y at *
      have w5 : IntKind.i64.wrap y = y := IntWalk.i64_in _ hfb
      have w6 : (wrap64 (wrap64 (q : Int) + (b : Int))).tmod (n : Int) = y := by rw [IntWalk.wrap64_in (q : Int) (by omega), IntWalk.wrap64_in _ (by omega), w3]
      have W6 := Lib.hid w6
      clear w6
      clear hq hkl hak hfb
      go_wp2_with (at_builtin; refine appI hS 0 rfl hN.out rfl _ _ rfl rfl _ rfl ?_; intro v2 w2 hS2)
      simp only [List.set_cons_zero] at hS2
      rw [W6.out, ← hst.out] at hS2
      go_roundw
      case rel => exact ⟨k + 1, by omega, by go_num, hS2⟩
      case measure => simp [intOf]; omega
    · obtain rfl : k = n := by omega
      go_wp2_with fail
      go_ret
      exact ⟨_, rfl, hS⟩
end Go.Proofs.Ytdgmaodnkbgolaa
end

section
/- Walks: permutations that generate a small group, drawn. -/
namespace Go.Proofs.Ytdgmaodnkbgolaa
set_option linter.unusedSimpArgs false
set_option linter.unusedVariables false
open Go.RowKit
attribute [local go_sem ↓] Go.wp_at_zero Go.wp_at_succ

theorem Src.newrow {w0 w : World} {cv : Value} {g K : Nat} {L : List Ent} (h : Src w0 w cv g K L) (e : TypeId) (cs : Array Value) (hm : cs.size ≤ maxLen) :
    Src w0 (w.alloc (.cells cs e)) cv g K (row e (.slice (some ⟨w.heap.size, 0, none⟩) cs.size cs.size) cs.toList :: L) := by
  obtain ⟨p, s, h0, h1, hS⟩ := h
  refine ⟨p, s, h0, h1, ?_⟩
  refine (hS.new e cs hm).perm ?_
  refine List.Perm.trans (List.perm_append_comm) ?_
  simp only [List.cons_append, List.nil_append]
  exact List.Perm.swap _ _ _
/-- permutations of n points, and the source goes on -/
def SomeS (w0 : World) (cv : Value) (g K : Nat) (L : List Ent) (e : Ending) (w' : World) : Prop := ∃ (n : Nat) (v : Value) (us : List Value) (S : List (List Int)), e = .returned (.tuple #[.int .i64 n, v]) ∧ 1 ≤ n ∧ n ≤ 13 ∧ us.length = S.length ∧ (∀ q ∈ S, Prm n q) ∧ S.length ≤ 2 ∧ Src w0 w' cv g (K + 100) (own2 v us S ++ L)
set_option maxHeartbeats 16000000 in
set_option maxRecDepth 100000 in
theorem l05Some_c (w0 w : World) (cv : Value) (bs : List UInt8) (g K : Nat) (L : List Ent) (hb : RdB w0 cv bs) (h : Src w0 w cv g K L) (hK : K < 100000000) :
    Calls Try.prog 40 #[.pointer (some ⟨g, 0, none⟩)] w (SomeS w0 cv g K L) := by
  go_enter Try.func40, Try.ntmps40
  go_wp2_with fail
  refine (pick_c w0 w cv bs g _ _ _ hb h (by omega)).mono ?_
  rintro e w1 ⟨x, x0, x1, rfl, h1⟩
  obtain ⟨n', rfl⟩ := Int.eq_ofNat_of_zero_le x0
  have hn' : n' ≤ 7 := by omega
  have v1 : IntKind.i64.wrap (1 + (n' : Int)) = 1 + (n' : Int) := IntWalk.i64_in _ (by omega)
  clear x0 x1 h
  go_wp2_with fail
  refine (pick_c w0 w1 cv bs g _ _ _ hb h1 (by omega)).mono ?_
  rintro e w2 ⟨y, y0, y1, rfl, h2⟩
  obtain ⟨n, hn⟩ : ∃ n, 1 + n' = n := ⟨_, rfl⟩
  rw [show 1 + (n' : Int) = (n : Int) by omega]
  have hn1 : 1 ≤ n ∧ n ≤ 13 := by omega
  clear v1 h1 hn
  have KT := Lib.hid (fun a b W (ha : a ≤ 13) (hb : b ≤ 13) => l05Turn_c n a b W hn1 ha hb)
  rcases (show y = 0 ∨ y = 1 ∨ y = 2 ∨ y = 3 by omega) with rfl | rfl | rfl | rfl
  · have K1 := Lib.hid (KT.out 1 1 w2 (by omega) (by omega))
    rw [show ((1 : Nat) : Int) = (1 : Int) from rfl] at K1
    go_wp2_with fail
    refine K1.out.mono ?_
    rintro e w3 ⟨v3, rfl, h3⟩
    obtain ⟨a3, c3, hsh⟩ := (h3.rdI 0 rfl).sl.sh
    rw [iv_len, turL_len] at hsh
    subst hsh
    have h4 := (h2.call h3).newrow 32 #[.slice a3 n c3] (by simp [maxLen])
    go_wp2_with fail
    go_ret2
    exact ⟨n, _, _, [turL n 1 1 n], rfl, hn1.1, hn1.2, rfl, fun q hq => by rw [List.mem_singleton.1 hq]; exact (tur_1 hn1).1, by simp, (h4.perm (List.Perm.cons _ List.perm_append_comm)).mono (by omega)⟩
  · have K1 := Lib.hid (KT.out 1 1 w2 (by omega) (by omega))
    have K2 := Lib.hid (fun W => KT.out (n - 1) 0 W (by omega) (by omega))
    rw [show ((1 : Nat) : Int) = (1 : Int) from rfl] at K1
    rw [show ((0 : Nat) : Int) = (0 : Int) from rfl, show ((n - 1 : Nat) : Int) = (n : Int) - 1 by omega] at K2
    have v2 : IntKind.i64.wrap ((n : Int) - 1) = (n : Int) - 1 := IntWalk.i64_in _ (by omega)
    go_wp2_with fail
    refine K1.out.mono ?_
    rintro e w3 ⟨v3, rfl, h3⟩
    obtain ⟨a3, c3, hsh⟩ := (h3.rdI 0 rfl).sl.sh
    rw [iv_len, turL_len] at hsh
    subst hsh
    have h4 := h2.call h3
    go_wp2_with fail
    refine (K2.out _).mono ?_
    rintro e w4 ⟨v4, rfl, h5⟩
    obtain ⟨a4, c4, hsh⟩ := (h5.rdI 0 rfl).sl.sh
    rw [iv_len, turL_len] at hsh
    subst hsh
    have h6 := (h4.call h5).newrow 32 #[.slice a3 n c3, .slice a4 n c4] (by simp [maxLen])
    go_wp2_with fail
    go_ret2
    exact ⟨n, _, _, [turL n 1 1 n, turL n (n - 1) 0 n], rfl, hn1.1, hn1.2, rfl, fun q hq => by
      simp only [List.mem_cons, List.not_mem_nil, or_false] at hq
      rcases hq with rfl | rfl
      · exact (tur_1 hn1).1
      · exact (tur_1 hn1).2, by simp, (h6.perm (List.Perm.cons _ (by rw [List.append_assoc]; exact List.perm_append_comm))).mono (by omega)⟩
  · clear hn1 KT hn'
    go_wp2_with fail
    refine (among_lit [5, 7, 11, 13] w0 w2 cv bs g _ _ hb h2 (by decide) (by omega)).mono ?_
    rintro e w3 ⟨x, hx, rfl, h3⟩
    obtain ⟨q, rfl, hq⟩ : ∃ q : Nat, x = q ∧ q ∈ ([5, 7, 11, 13] : List Nat) := by
      simp only [List.mem_cons, List.not_mem_nil, or_false] at hx
      rcases hx with rfl | rfl | rfl | rfl
      · exact ⟨5, rfl, by decide⟩
      · exact ⟨7, rfl, by decide⟩
      · exact ⟨11, rfl, by decide⟩
      · exact ⟨13, rfl, by decide⟩
    have hn1 : 1 ≤ q ∧ q ≤ 13 := by simp at hq; omega
    have KT := Lib.hid (fun a b W (ha : a ≤ 13) (hb : b ≤ 13) => l05Turn_c q a b W hn1 ha hb)
    have Hq := Lib.hid hq
    have K1 := Lib.hid (KT.out 1 1 w3 (by omega) (by omega))
    rw [show ((1 : Nat) : Int) = (1 : Int) from rfl] at K1
    clear hx h2 hq
    go_wp2_with fail
    refine K1.out.mono ?_
    clear K1
    rintro e w4 ⟨v4, rfl, h4⟩
    obtain ⟨a3, c3, hsh⟩ := (h4.rdI 0 rfl).sl.sh
    rw [iv_len, turL_len] at hsh
    subst hsh
    have h5 := h3.call h4
    clear h3 h4
    go_wp2_with fail
    refine (among_lit [2, 3, 4] w0 w4 cv bs g _ _ hb h5 (by decide) (by omega)).mono ?_
    rintro e w5 ⟨x, hx, rfl, h6⟩
    obtain ⟨a, rfl, ha⟩ : ∃ a : Nat, x = a ∧ a ∈ ([2, 3, 4] : List Nat) := by
      simp only [List.mem_cons, List.not_mem_nil, or_false] at hx
      rcases hx with rfl | rfl | rfl
      · exact ⟨2, rfl, by decide⟩
      · exact ⟨3, rfl, by decide⟩
      · exact ⟨4, rfl, by decide⟩
    have K2 := Lib.hid (KT.out a 0 w5 (by simp at ha; omega) (by omega))
    rw [show ((0 : Nat) : Int) = (0 : Int) from rfl] at K2
    have Ha := Lib.hid ha
    clear hx h5 ha
    go_wp2_with fail
    refine K2.out.mono ?_
    clear K2
    rintro e w6 ⟨v6, rfl, h7⟩
    obtain ⟨a4, c4, hsh⟩ := (h7.rdI 0 rfl).sl.sh
    rw [iv_len, turL_len] at hsh
    subst hsh
    have h8 := (h6.call h7).newrow 32 #[.slice a3 q c3, .slice a4 q c4] (by simp [maxLen])
    go_wp2_with fail
    go_ret2
    exact ⟨q, _, _, [turL q 1 1 q, turL q a 0 q], rfl, hn1.1, hn1.2, rfl, fun r hr => by
      simp only [List.mem_cons, List.not_mem_nil, or_false] at hr
      rcases hr with rfl | rfl
      · exact (tur_1 hn1).1
      · exact tur_2 Hq.out Ha.out, by simp, (h8.perm (List.Perm.cons _ (by rw [List.append_assoc]; exact List.perm_append_comm))).mono (by omega)⟩
  · clear hn1 KT hn'
    go_wp2_with fail
    refine (pick_c w0 w2 cv bs g _ _ _ hb h2 (by omega)).mono ?_
    rintro e w3 ⟨x, x0, x1, rfl, h3⟩
    obtain ⟨n', rfl⟩ := Int.eq_ofNat_of_zero_le x0
    have hn' : n' ≤ 4 := by omega
    have v1 : IntKind.i64.wrap (1 + (n' : Int)) = 1 + (n' : Int) := IntWalk.i64_in _ (by omega)
    have h4 := h3.newrow 32 #[] (by simp [maxLen])
    clear x0 x1 h2 h3
    go_wp2_with fail
    refine (pick_c w0 _ cv bs g _ _ _ hb h4 (by omega)).mono ?_
    rintro e w5 ⟨y, y0, y1, rfl, h5⟩
    obtain ⟨k0, rfl⟩ := Int.eq_ofNat_of_zero_le y0
    have hk0 : k0 ≤ 2 := by omega
    obtain ⟨q, hq⟩ : ∃ q, 1 + n' = q := ⟨_, rfl⟩
    rw [show 1 + (n' : Int) = (q : Int) by omega]
    have hq1 : 1 ≤ q ∧ q ≤ 5 := by omega
    have h6 : Src w0 w5 cv g (K + 8 + 10 * ([] : List (List Int)).length) (own2 (.slice (some ⟨w3.heap.size, 0, none⟩) 0 0) [] [] ++ L) := h5.mono (by simp <;> omega)
    clear y0 y1 h4 h5 v1 hq hn'
    go_wp2_with fail
    go_loopw [5, 6] (fun o ki wr => ∃ (j : Nat) (us : List Value) (S : List (List Int)), ki = .int .i64 j ∧ Hid (us.length = S.length ∧ ∀ r ∈ S, Prm q r) ∧ S.length + j ≤ 2 ∧ Src w0 wr cv g (K + 8 + 10 * S.length) (own2 o us S ++ L)) (fun _ ki _ => (intOf ki).toNat)
    case atStart => exact ⟨k0, [], [], rfl, ⟨rfl, fun r hr => by simp at hr⟩, by simpa using hk0, h6⟩
    case round =>
      clear h6
      obtain ⟨j, us, S, rfl, hI, hj, hs⟩ := hrel
      by_cases hj0 : 0 < j
      · have hji : (0 : Int) < (j : Int) := by omega
        have KD := Lib.hid (l04DrawPerm_c w0 wr cv bs g _ _ q hb hs (by omega) (by omega))
        have v3 : IntKind.i64.wrap ((j : Int) - 1) = (j : Int) - 1 := IntWalk.i64_in _ (by omega)
        clear hs
        go_wp2_with fail
        refine KD.out.mono ?_
        clear KD
        rintro e w7 ⟨v7, xs, rfl, hxl, hxp, h7⟩
        obtain ⟨a7, c7, hsh⟩ := (h7.rdI 0 rfl).sl.sh
        rw [iv_len, hxl] at hsh
        subst hsh
        have hxs := Lib.hid (And.intro hxp hxl)
        have hul := Lib.hid (show us.length < 4294967296 by rw [hI.out.1]; omega)
        obtain ⟨pp, ss, s0, s1, hS⟩ := h7
        clear hxp hxl
        go_wp2_with (at_builtin; refine appII hS 2 rfl hul.out rfl _ _ rfl rfl _ rfl (by first | rfl | simp [Act.eval, World.size_alloc]) ?_; intro v8 w8 hS8)
        have hS9 : Src w0 w8 cv g (K + 8 + 10 * (S ++ [xs]).length) (own2 v8 (us ++ [.slice a7 q c7]) (S ++ [xs]) ++ L) := ⟨pp, ss, s0, by rw [List.length_append, List.length_singleton]; omega, hS8.perm (by
          have e9 : own2 v8 (us ++ [.slice a7 q c7]) (S ++ [xs]) = row 32 v8 (us ++ [.slice a7 q c7]) :: (rowsI us S ++ [row 2 (.slice a7 q c7) (iv xs)]) := by rw [own2, rowsI_app hI.out.1]
          rw [e9]
          refine List.Perm.cons _ ?_
          show (row 2 (.slice a7 q c7) (iv xs) :: row 32 v8 (us ++ [.slice a7 q c7]) :: (rowsI us S ++ L)).Perm (row 32 v8 (us ++ [.slice a7 q c7]) :: (rowsI us S ++ [row 2 (.slice a7 q c7) (iv xs)] ++ L))
          refine (List.Perm.swap _ _ _).trans (List.Perm.cons _ ?_)
          rw [List.append_assoc]
          exact List.perm_middle.symm)⟩
        go_roundw
        case rel => exact ⟨j - 1, _, _, by go_num, ⟨by rw [List.length_append, List.length_append, hI.out.1]; rfl, fun r hr => by
          rcases List.mem_append.1 hr with hr | hr
          · exact hI.out.2 r hr
          · rw [List.mem_singleton.1 hr]; exact hxs.out⟩, by rw [List.length_append, List.length_singleton]; omega, hS9⟩
        case measure => simp [intOf]; omega
      · obtain rfl : j = 0 := by omega
        rw [show ((0 : Nat) : Int) = (0 : Int) from rfl]
        go_wp2_with fail
        go_ret2
        exact ⟨q, _, us, S, rfl, by omega, by omega, hI.out.1, hI.out.2, by omega, hs.mono (by omega)⟩
end Go.Proofs.Ytdgmaodnkbgolaa
end

section
/- Walks: a group drawn. -/
namespace Go.Proofs.Ytdgmaodnkbgolaa
set_option linter.unusedSimpArgs false
set_option linter.unusedVariables false
open Go.RowKit
attribute [local go_sem ↓] Go.wp_at_zero Go.wp_at_succ

/-- a group as a value -/
def gvS (n : Int) (v : Value) : Value := .agg #[.int .i64 n, v]
theorem StrA.srt {A : List (List Int)} (h : StrA A) : srtL A = A := srtL_id (srtB_pw.2 (h.imp fun {a b} hlt => by unfold leL; exact decide_eq_true (by omega)))
theorem Grp.triv (n : Nat) : Grp n [iot n] := ⟨by unfold StrA; simp, fun p hp => by rw [List.mem_singleton.1 hp]; exact Prm.one n, by simp, fun p q hp hq => by
  rw [List.mem_singleton.1 hp, List.mem_singleton.1 hq, iot_cmp (iot_len n)]; simp⟩
def DrawG (w0 : World) (cv : Value) (g K : Nat) (L : List Ent) (e : Ending) (w' : World) : Prop := ∃ (n : Nat) (v : Value) (us : List Value) (A : List (List Int)), e = .returned (gvS n v) ∧ 1 ≤ n ∧ n ≤ 13 ∧ Grp n A ∧ A.length ≤ 720 ∧ us.length = A.length ∧ Src w0 w' cv g (K + 200) (own2 v us A ++ L)
set_option maxHeartbeats 16000000 in
set_option maxRecDepth 100000 in
theorem l05Draw_c (w0 w : World) (cv : Value) (bs : List UInt8) (g K : Nat) (L : List Ent) (hb : RdB w0 cv bs) (h : Src w0 w cv g K L) (hK : K < 10000000) :
    Calls Try.prog 18 #[.pointer (some ⟨g, 0, none⟩)] w (DrawG w0 cv g K L) := by
  have h1 := h.newboxF 26 #[.int .i64 0, .slice none 0 0]
  clear h
  go_enter Try.func18, Try.ntmps18
  go_wp2_with fail
  refine (l05Some_c w0 _ cv bs g _ _ hb h1 (by omega)).mono ?_
  rintro e w2 ⟨n, v, us, S, rfl, hn1, hn2, hl, hS, hS2, h2⟩
  have hR := h2.riiS (v := v) (us := us) (A := S) (List.sublist_append_left _ _) hl
  have KC := Lib.hid (l05Close_c n 720 v us S w2 hR hS (by omega) (by omega) (by omega))
  rw [show ((720 : Nat) : Int) = (720 : Int) from rfl] at KC
  have HS := Lib.hid hS
  have h3 := h2.sub (L' := box 26 w.heap.size [.int .i64 0, .slice none 0 0] :: L) (List.sublist_append_right _ _)
  clear h1 h2 hR hS hl
  go_wp2_with fail
  refine KC.out.mono ?_
  clear KC
  rintro e w3 (⟨v3, us3, R, rfl, r3, hcl, hRl, h4⟩ | ⟨rfl, _, h4⟩)
  · have hG := Lib.hid (hcl.grp HS.out)
    have h5 := h3.call0 h4
    have KS := Lib.hid (l10Sort_c v3 us3 R w3 r3 (by omega) (fun xs hx => by rw [(hG.out.prm xs hx).2]; omega))
    rw [hG.out.str.srt] at KS
    clear h3 h4 hcl r3
    go_wp2_with fail
    refine KS.out.mono ?_
    clear KS
    rintro e w4 ⟨v4, us4, rfl, hl4, h6⟩
    obtain ⟨a4, c4, hv4⟩ := (h6.rd 0 (e := 32) (v := v4) (us := us4) rfl).sl.sh
    rw [hl4] at hv4
    subst hv4
    have h7 := h5.call h6
    have c0 := h7.box 0 (e := 26) rfl 0 rfl
    have c1 := h7.box 0 (e := 26) rfl 1 rfl
    have f0 := h7.bfree 0 (e := 26) rfl 0
    have f1 := h7.bfree 0 (e := 26) rfl 1
    have h9 := (h7.bstore 0 (e := 26) rfl 0 (.int .i64 n)).bstore 0 (e := 26) rfl 1 (.slice a4 R.length c4)
    have d0 := h9.box 0 (e := 26) rfl 0 rfl
    have d1 := h9.box 0 (e := 26) rfl 1 rfl
    have h10 := (h9.sub (List.sublist_cons_self _ _)).perm (L' := own2 (.slice a4 R.length c4) us4 R ++ L) List.perm_append_comm
    have HL := Lib.hid hl4
    have HX := Lib.hid (h10.mono (K' := K + 200) (by omega))
    clear h5 h6 h7 h9 h10 hl4
    go_wp2_with fail
    refine bodyPost_ret (v := .agg #[.int .i64 n, .slice a4 R.length c4]) (by simp [results, Try.results18, go_sem, d0, d1]) rfl ?_
    exact ⟨n, _, us4, R, rfl, hn1, hn2, hG.out, hRl, HL.out, HX.out⟩
  · have h5 := h3.call0 h4
    have hG := Lib.hid (Grp.triv n)
    have KO := Lib.hid (l04One_c n w3 (by omega))
    clear h3 h4
    go_wp2_with fail
    refine KO.out.mono ?_
    clear KO
    rintro e w4 ⟨v4, rfl, h6⟩
    obtain ⟨a4, c4, hsh⟩ := (h6.rdI 0 rfl).sl.sh
    rw [iv_len, iot_len] at hsh
    subst hsh
    have h7 := (h6.new 32 #[.slice a4 n c4] (by simp [maxLen])).perm (L' := own2 (.slice (some ⟨w4.heap.size, 0, none⟩) 1 1) [.slice a4 n c4] [iot n]) List.perm_append_comm
    have r7 := h7.rii rfl
    have h8 := h5.call0 h7.out
    have KS := Lib.hid (l10Sort_c _ _ [iot n] _ r7 (by simp) (fun xs hx => by rw [(hG.out.prm xs hx).2]; omega))
    rw [hG.out.str.srt] at KS
    clear h5 h6 h7 r7
    go_wp2_with fail
    refine KS.out.mono ?_
    clear KS
    rintro e w5 ⟨v5, us5, rfl, hl5, h9⟩
    obtain ⟨a5, c5, hv5⟩ := (h9.rd 0 (e := 32) (v := v5) (us := us5) rfl).sl.sh
    rw [hl5, show [iot n].length = 1 from rfl] at hv5
    subst hv5
    have h7 := h8.call h9
    have c0 := h7.box 0 (e := 26) rfl 0 rfl
    have c1 := h7.box 0 (e := 26) rfl 1 rfl
    have f0 := h7.bfree 0 (e := 26) rfl 0
    have f1 := h7.bfree 0 (e := 26) rfl 1
    have hB := (h7.bstore 0 (e := 26) rfl 0 (.int .i64 n)).bstore 0 (e := 26) rfl 1 (.slice a5 1 c5)
    have d0 := hB.box 0 (e := 26) rfl 0 rfl
    have d1 := hB.box 0 (e := 26) rfl 1 rfl
    have h10 := (hB.sub (List.sublist_cons_self _ _)).perm (L' := own2 (.slice a5 1 c5) us5 [iot n] ++ L) List.perm_append_comm
    have HL := Lib.hid hl5
    have HX := Lib.hid (h10.mono (K' := K + 200) (by omega))
    clear h8 h9 h7 hB h10 hl5
    go_wp2_with fail
    refine bodyPost_ret (v := .agg #[.int .i64 n, .slice a5 1 c5]) (by simp [results, Try.results18, go_sem, d0, d1]) rfl ?_
    exact ⟨n, _, us5, [iot n], rfl, hn1, hn2, hG.out, by simp, HL.out, HX.out⟩
end Go.Proofs.Ytdgmaodnkbgolaa
end

section
/- Walks: a group of at most 120 permutations of at most 9 points. -/
namespace Go.Proofs.Ytdgmaodnkbgolaa
set_option linter.unusedSimpArgs false
set_option linter.unusedVariables false
open Go.RowKit
attribute [local go_sem ↓] Go.wp_at_zero Go.wp_at_succ

def kl4 : List (List Int) := [[0, 1, 2, 3], [1, 0, 3, 2], [2, 3, 0, 1], [3, 2, 1, 0]]
theorem kl4_grp : Grp 4 kl4 := by
  refine ⟨by unfold StrA kl4; decide, fun p hp => ?_, by decide, ?_⟩
  · have : ∀ p ∈ kl4, isPB p = true ∧ p.length = 4 := by decide
    exact ⟨isPB_t (this p hp).1, (this p hp).2⟩
  · have : ∀ p ∈ kl4, ∀ q ∈ kl4, cmpL p q ∈ kl4 := by decide
    exact fun p q hp hq => this p hp q hq
def MakesG9 (w : World) (e : Ending) (w' : World) : Prop := ∃ (n : Nat) (v : Value) (us : List Value) (A : List (List Int)), e = .returned (gvS n v) ∧ 1 ≤ n ∧ n ≤ 9 ∧ Grp n A ∧ A.length ≤ 120 ∧ RII w' v us A ∧ St w.heap.size w w' []
set_option maxHeartbeats 16000000 in
set_option maxRecDepth 100000 in
theorem V8Group_c (w : World) (cv : Value) (bs : List UInt8) (hb : RdB w cv bs) : Calls Try.prog 5 #[cv] w (MakesG9 w) := by
  have hS0 := (St.refl w).newboxF 26 #[.int .i64 0, .slice none 0 0]
  go_enter Try.func5, Try.ntmps5
  go_wp2_with fail
  refine (l00FromS w _ cv bs _ hb hS0).mono ?_
  rintro e w1 ⟨g, rfl, h1⟩
  clear hS0
  go_wp2_with fail
  refine (l05Draw_c w _ cv bs g _ _ hb h1 (by omega)).mono ?_
  rintro e w2 ⟨n, v, us, A, rfl, hn1, hn2, hG, hA7, hl, h2⟩
  obtain ⟨a, c, hv⟩ := (h2.rd 0 (e := 32) (v := v) (us := us) rfl).sl.sh
  rw [hl] at hv
  subst hv
  have h3 := ((h2.perm (L' := box 26 w.heap.size [.int .i64 0, .slice none 0 0] :: own2 (.slice a A.length c) us A) List.perm_append_comm).newboxF 26 #[.int .i64 n, .slice a A.length c])
  have hR := h3.riiS (v := .slice a A.length c) (us := us) (A := A) ((List.sublist_cons_self _ _).trans (List.sublist_cons_self _ _)) hl
  have hln := hR.len
  have b0 := h3.box 0 (e := 26) rfl 0 rfl
  have b1 := h3.box 0 (e := 26) rfl 1 rfl
  have c0 := h3.box 1 (e := 26) rfl 0 rfl
  have c1 := h3.box 1 (e := 26) rfl 1 rfl
  have f0 := h3.bfree 1 (e := 26) rfl 0
  have f1 := h3.bfree 1 (e := 26) rfl 1
  have HG := Lib.hid hG
  have Hl := Lib.hid hl
  clear h1 h2 hG hR hl
  unfold gvS
  by_cases hc : A.length ≤ 120 ∧ n ≤ 9
  · have g1 : ¬ (120 : Int) < (A.length : Int) := by omega
    have g2 : ¬ (9 : Int) < (n : Int) := by omega
    have h9 := (h3.bstore 1 (e := 26) rfl 0 (.int .i64 n)).bstore 1 (e := 26) rfl 1 (.slice a A.length c)
    have d0 := h9.box 1 (e := 26) rfl 0 rfl
    have d1 := h9.box 1 (e := 26) rfl 1 rfl
    have hR := h9.riiS (v := .slice a A.length c) (us := us) (A := A) ((List.sublist_cons_self _ _).trans (List.sublist_cons_self _ _)) Hl.out
    have hX := h9.st.out
    have HR := Lib.hid (And.intro hR hX)
    have Hc := Lib.hid hc
    clear h3 h9 hR hX hc
    go_wp2_with fail
    refine bodyPost_ret (v := .agg #[.int .i64 n, .slice a A.length c]) (by simp [results, Try.results5, go_sem, d0, d1]) rfl ?_
    exact ⟨n, _, us, A, rfl, hn1, Hc.out.2, HG.out, Hc.out.1, HR.out.1, HR.out.2⟩
  · have hN := ((((h3.st.new 2 #[.int .i64 0, .int .i64 1, .int .i64 2, .int .i64 3] (by simp [maxLen])).new 2 #[.int .i64 1, .int .i64 0, .int .i64 3, .int .i64 2] (by simp [maxLen])).new 2 #[.int .i64 2, .int .i64 3, .int .i64 0, .int .i64 1] (by simp [maxLen])).new 2 #[.int .i64 3, .int .i64 2, .int .i64 1, .int .i64 0] (by simp [maxLen])).new 32 #[.slice (some ⟨w2.heap.size + 1, 0, none⟩) 4 4, .slice (some ⟨w2.heap.size + 2, 0, none⟩) 4 4, .slice (some ⟨w2.heap.size + 3, 0, none⟩) 4 4, .slice (some ⟨w2.heap.size + 4, 0, none⟩) 4 4] (by simp [maxLen])
    simp only [World.size_alloc] at hN
    have hN2 := hN.perm (L' := box 26 w2.heap.size [.int .i64 n, .slice a A.length c] :: box 26 w.heap.size [.int .i64 0, .slice none 0 0] :: (own2 (.slice a A.length c) us A ++ [row 2 (.slice (some ⟨w2.heap.size + 1, 0, none⟩) 4 4) (iv [0, 1, 2, 3]), row 2 (.slice (some ⟨w2.heap.size + 2, 0, none⟩) 4 4) (iv [1, 0, 3, 2]), row 2 (.slice (some ⟨w2.heap.size + 3, 0, none⟩) 4 4) (iv [2, 3, 0, 1]), row 2 (.slice (some ⟨w2.heap.size + 4, 0, none⟩) 4 4) (iv [3, 2, 1, 0]), row 32 (.slice (some ⟨w2.heap.size + 5, 0, none⟩) 4 4) [.slice (some ⟨w2.heap.size + 1, 0, none⟩) 4 4, .slice (some ⟨w2.heap.size + 2, 0, none⟩) 4 4, .slice (some ⟨w2.heap.size + 3, 0, none⟩) 4 4, .slice (some ⟨w2.heap.size + 4, 0, none⟩) 4 4]])) (by
      refine List.Perm.of_eq ?_
      simp only [List.append_assoc, List.cons_append, List.nil_append]
      rfl)
    have e0 := hN2.bcell 1 rfl 0 rfl
    have e1 := hN2.bcell 1 rfl 1 rfl
    have ef := hN2.bfree 1 rfl
    have h9 := (hN2.bstore 1 rfl 0 (.int .i64 4)).bstore 1 rfl 1 (.slice (some ⟨w2.heap.size + 5, 0, none⟩) 4 4)
    have d0 := h9.bcell 1 rfl 0 rfl
    have d1 := h9.bcell 1 rfl 1 rfl
    have hR : RII _ (.slice (some ⟨w2.heap.size + 5, 0, none⟩) 4 4) _ kl4 := ((h9.sub ((List.sublist_append_right _ _).trans ((List.sublist_cons_self _ _).trans (List.sublist_cons_self _ _)))).perm (L' := own2 (.slice (some ⟨w2.heap.size + 5, 0, none⟩) 4 4) [.slice (some ⟨w2.heap.size + 1, 0, none⟩) 4 4, .slice (some ⟨w2.heap.size + 2, 0, none⟩) 4 4, .slice (some ⟨w2.heap.size + 3, 0, none⟩) 4 4, .slice (some ⟨w2.heap.size + 4, 0, none⟩) 4 4] kl4) (by
      show [_, _, _, _, _].Perm [_, _, _, _, _]
      exact List.perm_append_comm (l₁ := [_, _, _, _]) (l₂ := [_]))).rii rfl
    have HX := Lib.hid (And.intro hR h9.out)
    clear h3 hN hN2 h9 hR c0 c1 f0 f1
    by_cases hc1 : 120 < A.length
    · have g1 : (120 : Int) < (A.length : Int) := by omega
      go_wp2_with fail
      refine bodyPost_ret (v := .agg #[.int .i64 4, .slice (some ⟨w2.heap.size + 5, 0, none⟩) 4 4]) (by simp [results, Try.results5, go_sem, d0, d1]) rfl ?_
      exact ⟨4, _, _, kl4, rfl, by omega, by omega, kl4_grp, by decide, HX.out.1, HX.out.2⟩
    · have g1 : ¬ (120 : Int) < (A.length : Int) := by omega
      have g2 : (9 : Int) < (n : Int) := by omega
      go_wp2_with fail
      refine bodyPost_ret (v := .agg #[.int .i64 4, .slice (some ⟨w2.heap.size + 5, 0, none⟩) 4 4]) (by simp [results, Try.results5, go_sem, d0, d1]) rfl ?_
      exact ⟨4, _, _, kl4, rfl, by omega, by omega, kl4_grp, by decide, HX.out.1, HX.out.2⟩
end Go.Proofs.Ytdgmaodnkbgolaa
end

section
/- Walks: a valid group and equal groups, by the reference. -/
namespace Go.Proofs.Ytdgmaodnkbgolaa
set_option linter.unusedSimpArgs false
set_option linter.unusedVariables false
open Go.RowKit
attribute [local go_sem ↓] Go.wp_at_zero Go.wp_at_succ

set_option maxHeartbeats 8000000 in
set_option maxRecDepth 100000 in
theorem l05Ok_c (n g : Nat) (a : Option Addr) (c : Nat) (us : List Value) (A : List (List Int)) (w : World) (hb0 : w.cell? ⟨g, 0, none⟩ = some (.int .i64 n)) (hb1 : w.cell? ⟨g, 1, none⟩ = some (.slice a A.length c)) (hv : RII w (.slice a A.length c) us A) (hn : 1 ≤ n ∧ n ≤ 32) (hA : Grp n A) (hl : A.length ≤ 720) :
    Calls Try.prog 39 #[.pointer (some ⟨g, 0, none⟩)] w (GivesB w true) := by
  have hln := hv.len
  have hix := hv.ixe
  have hpos := hA.pos
  have q0 := fun s : SS w.heap.size w [] => cell_keepG s.st.below hb0
  have q1 := fun s : SS w.heap.size w [] => cell_keepG s.st.below hb1
  have hp : inB (n : Int) 1 32 = true := by simp [inB]; omega
  have KG := Lib.hid (fun W (h : RII W (.slice a A.length c) us A) => l05Generators_c n (.slice a A.length c) us A W h hn.2 hA hl)
  have g1 : ¬ (720 : Int) < (A.length : Int) := by omega
  have g2 : ((A.length : Int) == 0) = false := eq_f (by omega)
  have g3 : ¬ (A.length : Int) = 0 := by omega
  have g4 : ¬ A.length = 0 := by omega
  have HA := Lib.hid hA
  have hN2 := hn.2
  have Hb := Lib.hid (And.intro hb0 hb1)
  clear hA hn
  go_enter Try.func39, Try.ntmps39
  go_wp2_with (go_at_call 55; refine (l00In_c _ _ _ _).mono ?_; rw [hp]; rintro e w1 ⟨rfl, rfl⟩)
  go_loopw [3] (fun i wr => ∃ k : Nat, k ≤ A.length ∧ i = .int .i64 k ∧ St w.heap.size w wr []) (fun i _ => A.length - (intOf i).toNat)
  case atStart => exact ⟨0, by omega, rfl, St.refl w⟩
  case round =>
    clear hb0 hb1
    obtain ⟨k, hk, rfl, hS⟩ := hrel
    have b0 := cell_keepG hS.below Hb.out.1
    have b1 := cell_keepG hS.below Hb.out.2
    by_cases hlt : k < A.length
    · have hki : (k : Int) < (A.length : Int) := by omega
      have hpr := HA.out.prm _ (xat_mem hlt)
      have R1 := Lib.hid (fun s : SS w.heap.size w [] => (show Calls Try.prog 56 #[vat us k] s.w (GivesB s.w true) from by
        have := l04Ok_c (vat us k) (xat A k) s.w ((s.st.oldII hv).row k hlt)
        rwa [pvB_yes (by rw [hpr.2]; exact hN2) hpr.1] at this))
      have hq1 := fun s : SS w.heap.size w [] => (s.st.oldII hv).cell k hlt
      have hq2 := fun s : SS w.heap.size w [] => (s.st.oldII hv).row k hlt
      have hlk := (hv.row k hlt).len
      rw [hpr.2] at hlk
      have x1 := hix (k : Int) k rfl hlt
      have f1 : ((n : Int) != (n : Int)) = false := ne_f rfl
      by_cases hk0 : 0 < k
      · obtain ⟨m, hmk⟩ : ∃ m, m + 1 = k := ⟨k - 1, by omega⟩
        have hlt2 := HA.out.str.at' (show m < k by omega) hlt
        have R0 := Lib.hid (fun s : SS w.heap.size w [] => sCompareLists_c (vat us m) (vat us k) (xat A m) (xat A k) s.w ((s.st.oldII hv).row m (by omega)) ((s.st.oldII hv).row k hlt))
        have hq0 := fun s : SS w.heap.size w [] => (s.st.oldII hv).cell m (by omega)
        have x0 := hix ((k : Int) - 1) m (by omega) (by omega)
        have hw : IntKind.i64.wrap ((k : Int) - 1) = ((k : Int) - 1) := IntWalk.i64_in _ (by omega)
        have f3 : ¬ 0 ≤ cmpI (xat A m) (xat A k) := by omega
        have f3' : decide (0 ≤ cmpI (xat A m) (xat A k)) = false := decide_eq_false f3
        have g0 : (0 : Int) < (k : Int) := by omega
        generalize cmpI (xat A m) (xat A k) = z at *
        clear hmk hpr hq2 hlt2
        go_wp2_with fail
        have hne : Nonempty (SS _ _ _) := ⟨⟨_, hS⟩⟩
        refine wp_region_st (by kernel_rfl) (by kernel_rfl) hS ?_
        repeat (go_big_quiet_step ((first | (go_at_call 56; exact st_quiet (R1.out _)) | (go_at_call 57; exact st_quiet (R0.out _)))))
        refine wpQuiet_nil ?_
        rintro _ ⟨s2, rfl⟩
        have hS2 := s2.st
        generalize s2.w = w2 at hS2 ⊢
        go_wp2_with fail
        go_roundw
        case rel => exact ⟨k + 1, by omega, by go_num, hS2⟩
        case measure => simp [intOf]; omega
      · have g0 : ¬ (0 : Int) < (k : Int) := by omega
        clear hpr hq2
        go_wp2_with fail
        have hne : Nonempty (SS _ _ _) := ⟨⟨_, hS⟩⟩
        refine wp_region_st (by kernel_rfl) (by kernel_rfl) hS ?_
        repeat (go_big_quiet_step ((go_at_call 56; exact st_quiet (R1.out _))))
        refine wpQuiet_nil ?_
        rintro _ ⟨s2, rfl⟩
        have hS2 := s2.st
        generalize s2.w = w2 at hS2 ⊢
        go_wp2_with fail
        go_roundw
        case rel => exact ⟨k + 1, by omega, by go_num, hS2⟩
        case measure => simp [intOf]; omega
    · obtain rfl : k = A.length := by omega
      have KG2 := Lib.hid (KG.out _ (hS.drew.oldII hv))
      have hSd := hS.drew
      have d0 := cell_dr b0
      have d1 := cell_dr b1
      clear KG hS q0 q1
      go_wp2_with fail
      go_region_held3 (fun w' => w'.cell? ⟨g, 0, none⟩ = some (.int .i64 n) ∧ w'.cell? ⟨g, 1, none⟩ = some (.slice a A.length c)) (go_keep) (
        (go_at_call 58; refine KG2.out.mono ?_; rintro e5 w5 ⟨vo, rfl, h5⟩; have hS5 := hSd.call0 h5; have e0 := cell_keepG h5.below d0; have e1 := cell_keepG h5.below d1))
      go_wp2_with fail
      go_ret
      exact ⟨rfl, hS5.out⟩
set_option maxHeartbeats 4000000 in
set_option maxRecDepth 100000 in
theorem sValidGroup_c (n : Nat) (v : Value) (us : List Value) (A : List (List Int)) (w : World) (hv : RII w v us A) (hn : 1 ≤ n ∧ n ≤ 32) (hA : Grp n A) (hl : A.length ≤ 720) :
    Calls Try.prog 15 #[gv n v] w (GivesB w true) := by
  obtain ⟨a, c, hsh⟩ := hv.1.sl.sh
  rw [hv.2.1] at hsh
  subst hsh
  have hS0 := (St.refl w).newboxF 26 #[.int .i64 n, .slice a A.length c]
  have K := Lib.hid (l05Ok_c n w.heap.size a c us A _ (hS0.bcell 0 rfl 0 rfl) (hS0.bcell 0 rfl 1 rfl) (hS0.oldII hv) hn hA hl)
  have hout := hS0.out
  unfold gv
  clear hv hn hA hS0
  go_enter Try.func15, Try.ntmps15
  go_wp2_with fail
  refine K.out.mono ?_
  clear K
  rintro e w1 ⟨rfl, h1⟩
  have h2 := hout.call0 h1
  go_wp2_with fail
  go_ret
  exact ⟨rfl, h2⟩
set_option maxHeartbeats 4000000 in
set_option maxRecDepth 100000 in
theorem sSameGroup_c (n : Nat) (v v' : Value) (us us' : List Value) (A : List (List Int)) (w : World) (hv : RII w v us A) (hv' : RII w v' us' A) :
    Calls Try.prog 8 #[gv n v, gv n v'] w (GivesB w true) := by
  obtain ⟨a, c, hsh⟩ := hv.1.sl.sh
  rw [hv.2.1] at hsh
  subst hsh
  obtain ⟨a', c', hsh⟩ := hv'.1.sl.sh
  rw [hv'.2.1] at hsh
  subst hsh
  have hS0 := ((St.refl w).newboxF 26 #[.int .i64 n, .slice a A.length c]).newboxF 26 #[.int .i64 n, .slice a' A.length c']
  simp only [World.size_alloc] at hS0
  have b0 := hS0.bcell 1 rfl 0 rfl
  have b1 := hS0.bcell 1 rfl 1 rfl
  have c0 := hS0.bcell 0 rfl 0 rfl
  have c1 := hS0.bcell 0 rfl 1 rfl
  have K := Lib.hid (l10Same_c (.slice a A.length c) (.slice a' A.length c') us us' A A _ (hS0.oldII hv) (hS0.oldII hv'))
  rw [decide_eq_true rfl] at K
  have f1 : ((n : Int) == (n : Int)) = true := eq_t rfl
  have hout := hS0.out
  unfold gv
  clear hv hv' hS0
  go_enter Try.func8, Try.ntmps8
  go_wp2_with fail
  refine K.out.mono ?_
  clear K
  rintro e w1 ⟨rfl, h1⟩
  have h2 := hout.call0 h1
  go_wp2_with fail
  go_ret
  exact ⟨rfl, h2⟩
end Go.Proofs.Ytdgmaodnkbgolaa
end
