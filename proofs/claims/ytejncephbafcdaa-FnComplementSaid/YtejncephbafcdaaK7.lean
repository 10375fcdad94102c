/- The texts of this claim, run 7: Kn PCp V8l Cpl LCpl Prf PFnComplement. -/
import Derived.Test.YtejncephbafcdaaK3
import Derived.Test.YtejncephbafcdaaK4
import Derived.Test.YtejncephbafcdaaK5
import Derived.Test.YtejncephbafcdaaK6
import Derived.Deep.Cut
import Derived.ProofKit
import Derived.OpenShut
import Derived.ShutString
import Derived.ChangeOld
import Derived.Below
section
/- Walks: the designs that the reference knows. -/
namespace Go.Proofs.Ytejncephbafcdaa
set_option linter.unusedSimpArgs false
set_option linter.unusedVariables false
open Go.RowKit
attribute [local go_sem ↓] Go.wp_at_zero Go.wp_at_succ

theorem St.empII0 {B : Nat} {w0 w : World} {L : List Ent} (h : St B w0 w L) : St B w0 (w.alloc (.cells #[] 52)) (L ++ [row 52 (.slice (some ⟨w.heap.size, 0, none⟩) 0 0) []]) := h.new 52 #[] (by simp)
theorem prA_len (n : Nat) : ∀ a, (prA n a).length ≤ a * n
  | 0 => Nat.zero_le _
  | a + 1 => by
    rw [prA, List.length_append, Nat.succ_mul]
    have := prA_len n a
    have : (prR n a).length ≤ n := by simp [prR]
    omega
theorem prA_rows (n : Nat) : ∀ a, ∀ xs ∈ prA n a, xs.length ≤ 1048576
  | 0, xs, h => by cases h
  | a + 1, xs, h => by
    rw [prA] at h
    rcases List.mem_append.1 h with h | h
    · exact prA_rows n a xs h
    · obtain ⟨t, _, rfl⟩ := List.mem_map.1 h
      simp
/-- a design that is known -/
def MakesKn (w0 : World) (cv : Value) (g K : Nat) (L : List Ent) (e : Ending) (w' : World) : Prop := ∃ (P : Nat) (A : List (List Int)) (v : Value) (us : List Value), (P, A) ∈ knL ∧ e = .returned (dv P v) ∧ us.length = A.length ∧ Src w0 w' cv g K (own2 v us A ++ L)
set_option maxHeartbeats 16000000 in
set_option maxRecDepth 100000 in
theorem l10Known_c (w0 w : World) (cv : Value) (bs : List UInt8) (g K : Nat) (L : List Ent) (hb : RdB w0 cv bs) (h : Src w0 w cv g K L) (hK : K < 100000000) :
    Calls Try.prog 54 #[.pointer (some ⟨g, 0, none⟩)] w (MakesKn w0 cv g (K + 10) L) := by
  have h1 := h.newboxF 41 #[.int .i64 0, .slice none 0 0]
  clear h
  obtain ⟨p0, s0, q0, q1, hS⟩ := h1
  have hF := (((((((hS.new 2 #[.int .i64 0, .int .i64 1, .int .i64 3] (by simp [maxLen])).new 2 #[.int .i64 1, .int .i64 2, .int .i64 4] (by simp [maxLen])).new 2 #[.int .i64 2, .int .i64 3, .int .i64 5] (by simp [maxLen])).new 2 #[.int .i64 3, .int .i64 4, .int .i64 6] (by simp [maxLen])).new 2 #[.int .i64 0, .int .i64 4, .int .i64 5] (by simp [maxLen])).new 2 #[.int .i64 1, .int .i64 5, .int .i64 6] (by simp [maxLen])).new 2 #[.int .i64 0, .int .i64 2, .int .i64 6] (by simp [maxLen]))
  simp only [World.size_alloc, List.size_toArray, List.length_cons, List.length_nil, Nat.zero_add, Nat.reduceAdd] at hF
  have hF := hF.new 52 #[.slice (some ⟨w.heap.size + 1, 0, none⟩) 3 3, .slice (some ⟨w.heap.size + 1 + 1, 0, none⟩) 3 3, .slice (some ⟨w.heap.size + 1 + 1 + 1, 0, none⟩) 3 3, .slice (some ⟨w.heap.size + 1 + 1 + 1 + 1, 0, none⟩) 3 3, .slice (some ⟨w.heap.size + 1 + 1 + 1 + 1 + 1, 0, none⟩) 3 3, .slice (some ⟨w.heap.size + 1 + 1 + 1 + 1 + 1 + 1, 0, none⟩) 3 3, .slice (some ⟨w.heap.size + 1 + 1 + 1 + 1 + 1 + 1 + 1, 0, none⟩) 3 3] (by simp [maxLen])
  simp only [World.size_alloc, List.size_toArray, List.length_cons, List.length_nil, Nat.zero_add, Nat.reduceAdd] at hF
  have hF2 : ∃ uf : List Value, uf.length = 7 ∧ St w0.heap.size w0 _ (box 101 g [cv, .int .i64 p0, .int .u64 s0] :: box 41 w.heap.size [.int .i64 0, .slice none 0 0] :: (own2 (.slice (some ⟨w.heap.size + 1 + 1 + 1 + 1 + 1 + 1 + 1 + 1, 0, none⟩) 7 7) uf fanL ++ L)) :=
    ⟨[.slice (some ⟨w.heap.size + 1, 0, none⟩) 3 3, .slice (some ⟨w.heap.size + 1 + 1, 0, none⟩) 3 3, .slice (some ⟨w.heap.size + 1 + 1 + 1, 0, none⟩) 3 3, .slice (some ⟨w.heap.size + 1 + 1 + 1 + 1, 0, none⟩) 3 3, .slice (some ⟨w.heap.size + 1 + 1 + 1 + 1 + 1, 0, none⟩) 3 3, .slice (some ⟨w.heap.size + 1 + 1 + 1 + 1 + 1 + 1, 0, none⟩) 3 3, .slice (some ⟨w.heap.size + 1 + 1 + 1 + 1 + 1 + 1 + 1, 0, none⟩) 3 3], rfl, hF.perm (by
      simp only [own2, rowsI, fanL, List.zipWith, iv, List.map]
      exact (by (try simp only [own2, List.cons_append, List.nil_append, List.append_nil]); classical exact List.perm_iff_count.2 (fun a => by simp only [List.cons_append, List.nil_append, List.append_nil, List.count_append, List.count_cons, List.count_nil] <;> omega)))⟩
  obtain ⟨uf, hlf, hF3⟩ := hF2
  have h2 : Src w0 _ cv g K (box 41 w.heap.size [.int .i64 0, .slice none 0 0] :: (own2 (.slice (some ⟨w.heap.size + 1 + 1 + 1 + 1 + 1 + 1 + 1 + 1, 0, none⟩) 7 7) uf fanL ++ L)) := ⟨p0, s0, q0, q1, hF3⟩
  have Hlf := Lib.hid hlf
  clear hF hS hF3 hlf q0 q1
  go_enter Try.func54, Try.ntmps54
  go_wp2_with fail
  refine (pick_c w0 _ cv bs g _ _ 4 hb h2 (by omega)).mono ?_
  rintro e w2 ⟨z, z0, z1, rfl, h3⟩
  clear h2
  by_cases e0 : z = 0
  · subst e0
    obtain ⟨pp, ss, p0, p1, hS⟩ := h3
    have HP0 := Lib.hid (And.intro p0 p1)
    have ro := rii2 (L2 := L) (hS.sub ((List.sublist_cons_self _ _).trans (List.sublist_cons_self _ _))) (by rw [Hlf.out]; rfl)
    have HSt := Lib.hid (l10Sort_c _ uf fanL w2 ro (by decide) (by decide))
    have hB := hS.sub (L' := box 101 g [cv, .int .i64 pp, .int .u64 ss] :: box 41 w.heap.size [.int .i64 0, .slice none 0 0] :: L) (((List.sublist_append_right _ _).cons_cons _).cons_cons _)
    clear hS ro p0 p1
    go_wp2_with fail
    refine HSt.out.mono ?_
    clear HSt
    rintro e w5 ⟨v5, us5, rfl, hl5, h5⟩
    obtain ⟨ua, uc, hv5⟩ := (h5.rd 0 (e := 52) (v := v5) (us := us5) rfl).sl.sh
    rw [hl5, srtL_len] at hv5
    generalize hLn : fanL.length = Ln at *
    subst hv5
    have hB5 := hB.call h5
    have c0 := hB5.bcell 1 rfl 0 rfl
    have c1 := hB5.bcell 1 rfl 1 rfl
    have f0 := hB5.bfree 1 rfl
    have h6 := (hB5.bstore 1 rfl 0 (.int .i64 7)).bstore 1 rfl 1 (.slice ua Ln uc)
    have d0 := h6.bcell 1 rfl 0 rfl
    have d1 := h6.bcell 1 rfl 1 rfl
    clear hB h5 hB5 hLn
    go_wp2_with fail
    refine bodyPost_ret (v := .agg #[.int .i64 7, .slice ua Ln uc]) (by simp [results, Try.results54, go_sem, d0, d1]) rfl ?_
    have h7 := h6.perm (L' := box 101 g [cv, .int .i64 pp, .int .u64 ss] :: ((own2 (.slice ua Ln uc) us5 (srtL fanL) ++ L) ++ [box 41 w.heap.size [.int .i64 7, .slice ua Ln uc]])) (by
      simp only [List.set_cons_succ, List.set_cons_zero, List.cons_append]
      exact (by (try simp only [own2, List.cons_append, List.nil_append, List.append_nil]); classical exact List.perm_iff_count.2 (fun a => by simp only [List.cons_append, List.nil_append, List.append_nil, List.count_append, List.count_cons, List.count_nil] <;> omega)))
    exact ⟨_, _, _, us5, by simp [knL], rfl, hl5, ⟨pp, ss, HP0.out.1, by have := HP0.out.2; omega, h7.sub ((List.sublist_append_left _ _).cons_cons _)⟩⟩
  · have f0 := eq_f e0
    by_cases e1 : z = 1
    · subst e1
      go_wp2_with fail
      refine (pick_c w0 _ cv bs g _ _ 4 hb h3.empII (by omega)).mono ?_
      rintro e w3 ⟨x, x0, x1, rfl, h4⟩
      obtain ⟨n, hn⟩ : ∃ n : Nat, 3 + x = n := ⟨(3 + x).toNat, by omega⟩
      have hn3 : 3 ≤ n := by omega
      have hn6 : n ≤ 6 := by omega
      obtain ⟨pp, ss, p0, p1, hS⟩ := h4
      have HP0 := Lib.hid (And.intro p0 p1)
      have hE0 := hS.sub (L' := box 101 g [cv, .int .i64 pp, .int .u64 ss] :: row 52 (.slice (some ⟨w2.heap.size, 0, none⟩) 0 0) [] :: box 41 w.heap.size [.int .i64 0, .slice none 0 0] :: L) ((((List.sublist_append_right _ _).cons_cons _).cons_cons _).cons_cons _)
      have hE := hE0.perm (L' := row 52 (.slice (some ⟨w2.heap.size, 0, none⟩) 0 0) [] :: (box 101 g [cv, .int .i64 pp, .int .u64 ss] :: box 41 w.heap.size [.int .i64 0, .slice none 0 0] :: L)) (by (try simp only [own2, List.cons_append, List.nil_append, List.append_nil]); classical exact List.perm_iff_count.2 (fun a => by simp only [List.cons_append, List.nil_append, List.append_nil, List.count_append, List.count_cons, List.count_nil] <;> omega))
      clear h3 hS hE0 p0 p1
      go_wp2_with fail
      try rw [hn]
      clear hn x0 x1
      go_loopw [4, 6, 7] (fun o i _ wr => ∃ (a : Nat) (uo : List Value), a ≤ n ∧ i = .int .i64 a ∧ Hid (uo.length = (prA n a).length) ∧ St w0.heap.size w0 wr (own2 o uo (prA n a) ++ (box 101 g [cv, .int .i64 pp, .int .u64 ss] :: box 41 w.heap.size [.int .i64 0, .slice none 0 0] :: L))) (fun _ i _ _ => n - (intOf i).toNat)
      case atStart => exact ⟨0, [], by omega, rfl, rfl, hE⟩
      case round =>
        clear hE
        obtain ⟨a, uo, ha, rfl, hlo, hS⟩ := hrel
        have hla := prA_len n a
        have han : a * n ≤ 36 := Nat.mul_le_mul (show a ≤ 6 by omega) hn6
        by_cases hlt : a < n
        · have hlti : (a : Int) < n := by omega
          have HA := Lib.hid (show prA n (a + 1) = prA n a ++ prR n a from rfl)
          have hS2 : St w0.heap.size w0 wr (own2 u4 uo (prA n a ++ (prR n a).take 0) ++ (box 101 g [cv, .int .i64 pp, .int .u64 ss] :: box 41 w.heap.size [.int .i64 0, .slice none 0 0] :: L)) := by rw [List.take_zero, List.append_nil]; exact hS
          have hlo2 : Hid (uo.length = (prA n a ++ (prR n a).take 0).length) := by rw [List.take_zero, List.append_nil]; exact hlo
          clear hS
          go_wp2_with fail
          go_loopw [4, 7] (fun o i wr => ∃ (t : Nat) (uo : List Value), t ≤ n - (a + 1) ∧ i = .int .i64 ((a : Int) + 1 + t) ∧ Hid (uo.length = (prA n a ++ (prR n a).take t).length) ∧ St w0.heap.size w0 wr (own2 o uo (prA n a ++ (prR n a).take t) ++ (box 101 g [cv, .int .i64 pp, .int .u64 ss] :: box 41 w.heap.size [.int .i64 0, .slice none 0 0] :: L))) (fun _ i _ => n - (intOf i).toNat)
          case atStart => exact ⟨0, uo, by omega, by simp, hlo2, hS2⟩
          case round =>
            clear hS2 hlo2 hlo
            obtain ⟨t, uo, ht, rfl, hlo, hS⟩ := hrel
            by_cases htn : t < n - (a + 1)
            · have hlt2 : (a : Int) + 1 + t < n := by omega
              have Ht := Lib.hid (prR_take (n := n) (a := a) htn)
              have hS1 := hS.new 2 #[.int .i64 a, .int .i64 ((a : Int) + 1 + t)] (by simp [maxLen])
              simp only [World.size_alloc, List.size_toArray, List.length_cons, List.length_nil, Nat.zero_add, Nat.reduceAdd] at hS1
              have hul := Lib.hid (show uo.length < 4294967296 by
                rw [hlo.out]; simp only [List.length_append, List.length_take]; omega)
              clear hS
              go_wp2_with (at_builtin; go_loud (refine appII hS1 0 rfl hul.out rfl _ _ rfl rfl _ rfl (by simp [Act.eval, World.size_alloc]) ?_; intro v8 w8 hS8))
              go_roundw
              case rel =>
                refine ⟨t + 1, uo ++ [.slice (some ⟨wr.heap.size, 0, none⟩) 2 2], by omega, by first | go_num | (congr 1; omega), ?_, ?_⟩
                · rw [Hid, Ht.out, ← List.append_assoc, List.length_append, List.length_append, hlo.out]; rfl
                · rw [Ht.out, ← List.append_assoc, own2, rowsI_app hlo.out]
                  have h9 : St w0.heap.size w0 w8 (row 52 v8 (uo ++ [.slice (some ⟨wr.heap.size, 0, none⟩) 2 2]) :: (rowsI uo (prA n a ++ (prR n a).take t) ++ (box 101 g [cv, .int .i64 pp, .int .u64 ss] :: box 41 w.heap.size [.int .i64 0, .slice none 0 0] :: L) ++ [row 2 (.slice (some ⟨wr.heap.size, 0, none⟩) 2 2) (iv [(a : Int), (a : Int) + 1 + (t : Nat)])])) := hS8
                  exact h9.perm (by (try simp only [own2, List.cons_append, List.nil_append, List.append_nil]); classical exact List.perm_iff_count.2 (fun a => by simp only [List.cons_append, List.nil_append, List.append_nil, List.count_append, List.count_cons, List.count_nil] <;> omega))
              case measure => simp [intOf]; omega
            · obtain rfl : t = n - (a + 1) := by omega
              rw [List.take_of_length_le (by simp [prR]), ← HA.out] at hS hlo
              have hge : ¬ ((a : Int) + 1 + ((n - (a + 1) : Nat) : Int)) < n := by omega
              go_wp2_with fail
              go_roundw
              case rel => exact ⟨a + 1, uo, by omega, by go_num, hlo, hS⟩
              case measure => simp [intOf]; omega
        · obtain rfl : a = n := by omega
          have ro : RII wr u4 uo (prA a a) := rii2 hS hlo.out
          have HSt := Lib.hid (l10Sort_c u4 uo (prA a a) wr ro (by omega) (prA_rows a a))
          have hB := (hS.sub (List.sublist_append_right _ _))
          have HM := Lib.hid (show (a, srtL (prA a a)) ∈ knL by
            rcases (show a = 3 ∨ a = 4 ∨ a = 5 ∨ a = 6 by omega) with rfl | rfl | rfl | rfl <;> simp [knL])
          clear hS ro hla han
          go_wp2_with fail
          refine HSt.out.mono ?_
          clear HSt
          rintro e w5 ⟨v5, us5, rfl, hl5, h5⟩
          obtain ⟨ua, uc, hv5⟩ := (h5.rd 0 (e := 52) (v := v5) (us := us5) rfl).sl.sh
          rw [hl5, srtL_len] at hv5
          generalize hLn : (prA a a).length = Ln at *
          subst hv5
          have hB5 := hB.call h5
          have c0 := hB5.bcell 1 rfl 0 rfl
          have c1 := hB5.bcell 1 rfl 1 rfl
          have f0 := hB5.bfree 1 rfl
          have h6 := (hB5.bstore 1 rfl 0 (.int .i64 a)).bstore 1 rfl 1 (.slice ua Ln uc)
          have d0 := h6.bcell 1 rfl 0 rfl
          have d1 := h6.bcell 1 rfl 1 rfl
          clear hB h5 hB5 hLn
          go_wp2_with fail
          refine bodyPost_ret (v := .agg #[.int .i64 a, .slice ua Ln uc]) (by simp [results, Try.results54, go_sem, d0, d1]) rfl ?_
          have h7 := h6.perm (L' := box 101 g [cv, .int .i64 pp, .int .u64 ss] :: ((own2 (.slice ua Ln uc) us5 (srtL (prA a a)) ++ L) ++ [box 41 w.heap.size [.int .i64 a, .slice ua Ln uc]])) (by
            simp only [List.set_cons_succ, List.set_cons_zero, List.cons_append]
            exact (by (try simp only [own2, List.cons_append, List.nil_append, List.append_nil]); classical exact List.perm_iff_count.2 (fun a => by simp only [List.cons_append, List.nil_append, List.append_nil, List.count_append, List.count_cons, List.count_nil] <;> omega)))
          exact ⟨_, _, _, us5, HM.out, rfl, hl5, ⟨pp, ss, HP0.out.1, by have := HP0.out.2; omega, h7.sub ((List.sublist_append_left _ _).cons_cons _)⟩⟩
    · have f1 := eq_f e1
      by_cases e2 : z = 2
      · subst e2
        obtain ⟨pp, ss, p0, p1, hS⟩ := h3
        have HP0 := Lib.hid (And.intro p0 p1)
        have hS := hS.sub (L' := box 101 g [cv, .int .i64 pp, .int .u64 ss] :: box 41 w.heap.size [.int .i64 0, .slice none 0 0] :: L) (((List.sublist_append_right _ _).cons_cons _).cons_cons _)
        have h1 := (); have h2 := ()
        clear p0 p1
        have hE := (hS.empII0).perm (L' := row 52 (.slice (some ⟨w2.heap.size, 0, none⟩) 0 0) [] :: (box 101 g [cv, .int .i64 pp, .int .u64 ss] :: box 41 w.heap.size [.int .i64 0, .slice none 0 0] :: L)) (by (try simp only [own2, List.cons_append, List.nil_append, List.append_nil]); classical exact List.perm_iff_count.2 (fun a => by simp only [List.cons_append, List.nil_append, List.append_nil, List.count_append, List.count_cons, List.count_nil] <;> omega))
        clear h1 h2 hS
        go_wp2_with fail
        go_loopw [8, 9, 10, 12] (fun o i _ _ wr => ∃ (k : Nat) (uo : List Value), k ≤ 11 ∧ i = .int .i64 k ∧ Hid (uo.length = k) ∧ St w0.heap.size w0 wr (own2 o uo (trL 11 S5 k) ++ (box 101 g [cv, .int .i64 pp, .int .u64 ss] :: box 41 w.heap.size [.int .i64 0, .slice none 0 0] :: L))) (fun _ i _ _ _ => 11 - (intOf i).toNat)
        case atStart => exact ⟨0, [], by omega, rfl, rfl, hE⟩
        case round =>
          clear hE
          obtain ⟨k, uo, hk, rfl, hlo, hS⟩ := hrel
          obtain ⟨wo, rfl⟩ : ∃ wo : World, wo = wr := ⟨_, rfl⟩
          have hlT : (trL 11 S5 k).length = k := by simp [trL]
          by_cases hlt : k < 11
          · have hlti : (k : Int) < 11 := by omega
            have hS1 := (hS.new 2 #[] (by simp)).new 2 #[.int .i64 1, .int .i64 3, .int .i64 4, .int .i64 5, .int .i64 9] (by simp [maxLen])
            simp only [World.size_alloc, List.size_toArray, List.length_cons, List.length_nil, Nat.zero_add, Nat.reduceAdd] at hS1
            have hS2 : St w0.heap.size w0 _ (row 2 (.slice (some ⟨wo.heap.size + 1, 0, none⟩) 5 5) (iv S5) :: row 2 (.slice (some ⟨wo.heap.size, 0, none⟩) 0 0) (iv (trS 11 k S5 0)) :: (own2 u8 uo (trL 11 S5 k) ++ (box 101 g [cv, .int .i64 pp, .int .u64 ss] :: box 41 w.heap.size [.int .i64 0, .slice none 0 0] :: L))) := hS1.perm (L' := row 2 (.slice (some ⟨wo.heap.size + 1, 0, none⟩) 5 5) [.int .i64 1, .int .i64 3, .int .i64 4, .int .i64 5, .int .i64 9] :: row 2 (.slice (some ⟨wo.heap.size, 0, none⟩) 0 0) [] :: (own2 u8 uo (trL 11 S5 k) ++ (box 101 g [cv, .int .i64 pp, .int .u64 ss] :: box 41 w.heap.size [.int .i64 0, .slice none 0 0] :: L))) (by (try simp only [own2, List.cons_append, List.nil_append, List.append_nil]); classical exact List.perm_iff_count.2 (fun a => by simp only [List.cons_append, List.nil_append, List.append_nil, List.count_append, List.count_cons, List.count_nil] <;> omega))
            have hl5 := (hS2.rdI 0 rfl).len
            have hi5 := (hS2.rdI 0 rfl).ix
            have hn5 : (S5).length = 5 := rfl
            rw [hn5] at hl5 hi5
            have HT := Lib.hid (trL_succ 11 S5 k)
            have Hlt := Lib.hid hlT
            clear hS1 hS hlT
            go_wp2_with fail
            go_loopw [10, 12, 71] (fun q _ i wx => ∃ j : Nat, j ≤ 5 ∧ i = .int .i64 j ∧ St w0.heap.size w0 wx (row 2 (.slice (some ⟨wo.heap.size + 1, 0, none⟩) 5 5) (iv S5) :: row 2 q (iv (trS 11 k S5 j)) :: (own2 u8 uo (trL 11 S5 k) ++ (box 101 g [cv, .int .i64 pp, .int .u64 ss] :: box 41 w.heap.size [.int .i64 0, .slice none 0 0] :: L)))) (fun _ _ i _ => 5 - (intOf i).toNat)
            case atStart => exact ⟨0, by omega, rfl, hS2⟩
            case round =>
              clear hS2
              obtain ⟨j, hj, rfl, hS⟩ := hrel
              by_cases hjt : j < 5
              · have cj := (hS.rdI 0 rfl).cell j hjt
                obtain ⟨x, hx, hx0, hx9⟩ : ∃ x : Int, nth S5 j = x ∧ 0 ≤ x ∧ x ≤ 9 := ⟨_, rfl, by
                  have : ∀ j, j < 5 → 0 ≤ nth S5 j := by decide
                  exact this j hjt, by
                  have : ∀ j, j < 5 → nth S5 j ≤ 9 := by decide
                  exact this j hjt⟩
                have hstep : Hid (trS 11 k S5 (j + 1) = putL (trS 11 k S5 j) ((x + k) % 11)) := by rw [Hid, trS, hx]; rfl
                rw [hx] at cj
                have hrem : (x + (k : Int)).tmod 11 = (x + k) % 11 := Int.tmod_eq_emod_of_nonneg (by omega)
                have hlt9 := trS_len 11 k S5 j
                have HP := fun n W h => Lib.hid (l00PutX_c u10 (trS 11 k S5 j) n W h (by omega))
                have hrq := hS.rdI 1 rfl
                clear hx
                go_wp2_with fail
                try rw [hrem]
                refine (HP _ _ hrq).out.mono ?_
                rintro e w5 ⟨v5, rfl, h5⟩
                have hS6 := (hS.call h5).sub (L' := row 2 (.slice (some ⟨wo.heap.size + 1, 0, none⟩) 5 5) (iv S5) :: ((own2 u8 uo (trL 11 S5 k) ++ (box 101 g [cv, .int .i64 pp, .int .u64 ss] :: box 41 w.heap.size [.int .i64 0, .slice none 0 0] :: L)) ++ [row 2 v5 (iv (putL (trS 11 k S5 j) ((x + k) % 11)))])) ((List.sublist_cons_self _ _).cons_cons _)
                have hS7 := hS6.perm (L' := row 2 (.slice (some ⟨wo.heap.size + 1, 0, none⟩) 5 5) (iv S5) :: row 2 v5 (iv (putL (trS 11 k S5 j) ((x + k) % 11))) :: (own2 u8 uo (trL 11 S5 k) ++ (box 101 g [cv, .int .i64 pp, .int .u64 ss] :: box 41 w.heap.size [.int .i64 0, .slice none 0 0] :: L))) (by (try simp only [own2, List.cons_append, List.nil_append, List.append_nil]); classical exact List.perm_iff_count.2 (fun a => by simp only [List.cons_append, List.nil_append, List.append_nil, List.count_append, List.count_cons, List.count_nil] <;> omega))
                clear hS hS6 h5 hrq HP
                go_wp2_with fail
                go_roundw
                case rel => exact ⟨j + 1, by omega, by go_num, by rw [hstep.out]; exact hS7⟩
                case measure => simp [intOf]; omega
              · obtain rfl : j = 5 := by omega
                have hl9 := trS_len 11 k S5 5
                obtain ⟨la, lc, hle⟩ := (hS.rdI 1 rfl).sl.sh
                rw [iv_len] at hle
                subst hle
                have hEt : trB 11 S5 k = trS 11 k S5 5 := rfl
                rw [← hEt] at hS
                have hul := Lib.hid (show uo.length < 4294967296 by rw [hlo.out]; omega)
                rw [show trS 11 k S5 5 = trB 11 S5 k from rfl]
                go_wp2_with (at_builtin; refine appII hS 2 rfl hul.out rfl _ _ rfl rfl _ rfl rfl ?_; intro v8 w8 hS8)
                simp only [List.set_cons_succ] at hS8
                go_roundw
                case rel =>
                  refine ⟨k + 1, uo ++ [.slice la (trB 11 S5 k).length lc], by omega, by go_num, by simp [Hid, hlo.out], ?_⟩
                  rw [HT.out, own2, rowsI_app (by rw [hlo.out, Hlt.out])]
                  have h9 := hS8.sub (L' := row 2 (.slice la (trB 11 S5 k).length lc) (iv (trB 11 S5 k)) :: row 52 v8 (uo ++ [.slice la (trB 11 S5 k).length lc]) :: (rowsI uo (trL 11 S5 k) ++ (box 101 g [cv, .int .i64 pp, .int .u64 ss] :: box 41 w.heap.size [.int .i64 0, .slice none 0 0] :: L))) (List.sublist_cons_self _ _)
                  exact h9.perm (by (try simp only [own2, List.cons_append, List.nil_append, List.append_nil]); classical exact List.perm_iff_count.2 (fun a => by simp only [List.cons_append, List.nil_append, List.append_nil, List.count_append, List.count_cons, List.count_nil] <;> omega))
                case measure => simp [intOf]; omega
          · obtain rfl : k = 11 := by omega
            have ro : RII wo u8 uo (trL 11 S5 11) := rii2 hS (by rw [hlo.out, hlT])
            have HSt := Lib.hid (l10Sort_c u8 uo (trL 11 S5 11) wo ro (by rw [hlT]; omega) (fun xs hx => by
              obtain ⟨j, _, rfl⟩ := List.mem_map.1 hx
              have := trS_len 11 j S5 5; exact Nat.le_trans this (by omega)))
            have hB := (hS.sub (List.sublist_append_right _ _))
            clear hS ro hlT
            go_wp2_with fail
            refine HSt.out.mono ?_
            clear HSt
            rintro e w5 ⟨v5, us5, rfl, hl5, h5⟩
            obtain ⟨ua, uc, hv5⟩ := (h5.rd 0 (e := 52) (v := v5) (us := us5) rfl).sl.sh
            rw [hl5, srtL_len] at hv5
            generalize hLn : (trL 11 S5 11).length = Ln at *
            subst hv5
            have hB5 := hB.call h5
            have c0 := hB5.bcell 1 rfl 0 rfl
            have c1 := hB5.bcell 1 rfl 1 rfl
            have f0 := hB5.bfree 1 rfl
            have h6 := (hB5.bstore 1 rfl 0 (.int .i64 11)).bstore 1 rfl 1 (.slice ua Ln uc)
            have d0 := h6.bcell 1 rfl 0 rfl
            have d1 := h6.bcell 1 rfl 1 rfl
            clear hB h5 hB5 hLn
            go_wp2_with fail
            refine bodyPost_ret (v := .agg #[.int .i64 11, .slice ua Ln uc]) (by simp [results, Try.results54, go_sem, d0, d1]) rfl ?_
            have h7 := h6.perm (L' := box 101 g [cv, .int .i64 pp, .int .u64 ss] :: ((own2 (.slice ua Ln uc) us5 (srtL (trL 11 S5 11)) ++ L) ++ [box 41 w.heap.size [.int .i64 11, .slice ua Ln uc]])) (by
              simp only [List.set_cons_succ, List.set_cons_zero, List.cons_append]
              exact (by (try simp only [own2, List.cons_append, List.nil_append, List.append_nil]); classical exact List.perm_iff_count.2 (fun a => by simp only [List.cons_append, List.nil_append, List.append_nil, List.count_append, List.count_cons, List.count_nil] <;> omega)))
            exact ⟨_, _, _, us5, by simp [knL], rfl, hl5, ⟨pp, ss, HP0.out.1, by have := HP0.out.2; omega, h7.sub ((List.sublist_append_left _ _).cons_cons _)⟩⟩
      · have f2 := eq_f e2
        obtain ⟨pp, ss, p0, p1, hS⟩ := h3
        have HP0 := Lib.hid (And.intro p0 p1)
        have hS := hS.sub (L' := box 101 g [cv, .int .i64 pp, .int .u64 ss] :: box 41 w.heap.size [.int .i64 0, .slice none 0 0] :: L) (((List.sublist_append_right _ _).cons_cons _).cons_cons _)
        have h1 := (); have h2 := ()
        clear p0 p1
        have hE := (hS.empII0).perm (L' := row 52 (.slice (some ⟨w2.heap.size, 0, none⟩) 0 0) [] :: (box 101 g [cv, .int .i64 pp, .int .u64 ss] :: box 41 w.heap.size [.int .i64 0, .slice none 0 0] :: L)) (by (try simp only [own2, List.cons_append, List.nil_append, List.append_nil]); classical exact List.perm_iff_count.2 (fun a => by simp only [List.cons_append, List.nil_append, List.append_nil, List.count_append, List.count_cons, List.count_nil] <;> omega))
        clear h1 h2 hS
        go_wp2_with fail
        go_loopw [13, 14, 15, 17] (fun o i _ _ wr => ∃ (k : Nat) (uo : List Value), k ≤ 13 ∧ i = .int .i64 k ∧ Hid (uo.length = k) ∧ St w0.heap.size w0 wr (own2 o uo (trL 13 S4 k) ++ (box 101 g [cv, .int .i64 pp, .int .u64 ss] :: box 41 w.heap.size [.int .i64 0, .slice none 0 0] :: L))) (fun _ i _ _ _ => 13 - (intOf i).toNat)
        case atStart => exact ⟨0, [], by omega, rfl, rfl, hE⟩
        case round =>
          clear hE
          obtain ⟨k, uo, hk, rfl, hlo, hS⟩ := hrel
          obtain ⟨wo, rfl⟩ : ∃ wo : World, wo = wr := ⟨_, rfl⟩
          have hlT : (trL 13 S4 k).length = k := by simp [trL]
          by_cases hlt : k < 13
          · have hlti : (k : Int) < 13 := by omega
            have hS1 := (hS.new 2 #[] (by simp)).new 2 #[.int .i64 0, .int .i64 1, .int .i64 3, .int .i64 9] (by simp [maxLen])
            simp only [World.size_alloc, List.size_toArray, List.length_cons, List.length_nil, Nat.zero_add, Nat.reduceAdd] at hS1
            have hS2 : St w0.heap.size w0 _ (row 2 (.slice (some ⟨wo.heap.size + 1, 0, none⟩) 4 4) (iv S4) :: row 2 (.slice (some ⟨wo.heap.size, 0, none⟩) 0 0) (iv (trS 13 k S4 0)) :: (own2 u13 uo (trL 13 S4 k) ++ (box 101 g [cv, .int .i64 pp, .int .u64 ss] :: box 41 w.heap.size [.int .i64 0, .slice none 0 0] :: L))) := hS1.perm (L' := row 2 (.slice (some ⟨wo.heap.size + 1, 0, none⟩) 4 4) [.int .i64 0, .int .i64 1, .int .i64 3, .int .i64 9] :: row 2 (.slice (some ⟨wo.heap.size, 0, none⟩) 0 0) [] :: (own2 u13 uo (trL 13 S4 k) ++ (box 101 g [cv, .int .i64 pp, .int .u64 ss] :: box 41 w.heap.size [.int .i64 0, .slice none 0 0] :: L))) (by (try simp only [own2, List.cons_append, List.nil_append, List.append_nil]); classical exact List.perm_iff_count.2 (fun a => by simp only [List.cons_append, List.nil_append, List.append_nil, List.count_append, List.count_cons, List.count_nil] <;> omega))
            have hl5 := (hS2.rdI 0 rfl).len
            have hi5 := (hS2.rdI 0 rfl).ix
            have hn5 : (S4).length = 4 := rfl
            rw [hn5] at hl5 hi5
            have HT := Lib.hid (trL_succ 13 S4 k)
            have Hlt := Lib.hid hlT
            clear hS1 hS hlT
            go_wp2_with fail
            go_loopw [15, 17, 97] (fun q _ i wx => ∃ j : Nat, j ≤ 4 ∧ i = .int .i64 j ∧ St w0.heap.size w0 wx (row 2 (.slice (some ⟨wo.heap.size + 1, 0, none⟩) 4 4) (iv S4) :: row 2 q (iv (trS 13 k S4 j)) :: (own2 u13 uo (trL 13 S4 k) ++ (box 101 g [cv, .int .i64 pp, .int .u64 ss] :: box 41 w.heap.size [.int .i64 0, .slice none 0 0] :: L)))) (fun _ _ i _ => 4 - (intOf i).toNat)
            case atStart => exact ⟨0, by omega, rfl, hS2⟩
            case round =>
              clear hS2
              obtain ⟨j, hj, rfl, hS⟩ := hrel
              by_cases hjt : j < 4
              · have cj := (hS.rdI 0 rfl).cell j hjt
                obtain ⟨x, hx, hx0, hx9⟩ : ∃ x : Int, nth S4 j = x ∧ 0 ≤ x ∧ x ≤ 9 := ⟨_, rfl, by
                  have : ∀ j, j < 4 → 0 ≤ nth S4 j := by decide
                  exact this j hjt, by
                  have : ∀ j, j < 4 → nth S4 j ≤ 9 := by decide
                  exact this j hjt⟩
                have hstep : Hid (trS 13 k S4 (j + 1) = putL (trS 13 k S4 j) ((x + k) % 13)) := by rw [Hid, trS, hx]; rfl
                rw [hx] at cj
                have hrem : (x + (k : Int)).tmod 13 = (x + k) % 13 := Int.tmod_eq_emod_of_nonneg (by omega)
                have hlt9 := trS_len 13 k S4 j
                have HP := fun n W h => Lib.hid (l00PutX_c u15 (trS 13 k S4 j) n W h (by omega))
                have hrq := hS.rdI 1 rfl
                clear hx
                go_wp2_with fail
                try rw [hrem]
                refine (HP _ _ hrq).out.mono ?_
                rintro e w5 ⟨v5, rfl, h5⟩
                have hS6 := (hS.call h5).sub (L' := row 2 (.slice (some ⟨wo.heap.size + 1, 0, none⟩) 4 4) (iv S4) :: ((own2 u13 uo (trL 13 S4 k) ++ (box 101 g [cv, .int .i64 pp, .int .u64 ss] :: box 41 w.heap.size [.int .i64 0, .slice none 0 0] :: L)) ++ [row 2 v5 (iv (putL (trS 13 k S4 j) ((x + k) % 13)))])) ((List.sublist_cons_self _ _).cons_cons _)
                have hS7 := hS6.perm (L' := row 2 (.slice (some ⟨wo.heap.size + 1, 0, none⟩) 4 4) (iv S4) :: row 2 v5 (iv (putL (trS 13 k S4 j) ((x + k) % 13))) :: (own2 u13 uo (trL 13 S4 k) ++ (box 101 g [cv, .int .i64 pp, .int .u64 ss] :: box 41 w.heap.size [.int .i64 0, .slice none 0 0] :: L))) (by (try simp only [own2, List.cons_append, List.nil_append, List.append_nil]); classical exact List.perm_iff_count.2 (fun a => by simp only [List.cons_append, List.nil_append, List.append_nil, List.count_append, List.count_cons, List.count_nil] <;> omega))
                clear hS hS6 h5 hrq HP
                go_wp2_with fail
                go_roundw
                case rel => exact ⟨j + 1, by omega, by go_num, by rw [hstep.out]; exact hS7⟩
                case measure => simp [intOf]; omega
              · obtain rfl : j = 4 := by omega
                have hl9 := trS_len 13 k S4 4
                obtain ⟨la, lc, hle⟩ := (hS.rdI 1 rfl).sl.sh
                rw [iv_len] at hle
                subst hle
                have hEt : trB 13 S4 k = trS 13 k S4 4 := rfl
                rw [← hEt] at hS
                have hul := Lib.hid (show uo.length < 4294967296 by rw [hlo.out]; omega)
                rw [show trS 13 k S4 4 = trB 13 S4 k from rfl]
                go_wp2_with (at_builtin; refine appII hS 2 rfl hul.out rfl _ _ rfl rfl _ rfl rfl ?_; intro v8 w8 hS8)
                simp only [List.set_cons_succ] at hS8
                go_roundw
                case rel =>
                  refine ⟨k + 1, uo ++ [.slice la (trB 13 S4 k).length lc], by omega, by go_num, by simp [Hid, hlo.out], ?_⟩
                  rw [HT.out, own2, rowsI_app (by rw [hlo.out, Hlt.out])]
                  have h9 := hS8.sub (L' := row 2 (.slice la (trB 13 S4 k).length lc) (iv (trB 13 S4 k)) :: row 52 v8 (uo ++ [.slice la (trB 13 S4 k).length lc]) :: (rowsI uo (trL 13 S4 k) ++ (box 101 g [cv, .int .i64 pp, .int .u64 ss] :: box 41 w.heap.size [.int .i64 0, .slice none 0 0] :: L))) (List.sublist_cons_self _ _)
                  exact h9.perm (by (try simp only [own2, List.cons_append, List.nil_append, List.append_nil]); classical exact List.perm_iff_count.2 (fun a => by simp only [List.cons_append, List.nil_append, List.append_nil, List.count_append, List.count_cons, List.count_nil] <;> omega))
                case measure => simp [intOf]; omega
          · obtain rfl : k = 13 := by omega
            have ro : RII wo u13 uo (trL 13 S4 13) := rii2 hS (by rw [hlo.out, hlT])
            have HSt := Lib.hid (l10Sort_c u13 uo (trL 13 S4 13) wo ro (by rw [hlT]; omega) (fun xs hx => by
              obtain ⟨j, _, rfl⟩ := List.mem_map.1 hx
              have := trS_len 13 j S4 4; exact Nat.le_trans this (by omega)))
            have hB := (hS.sub (List.sublist_append_right _ _))
            clear hS ro hlT
            go_wp2_with fail
            refine HSt.out.mono ?_
            clear HSt
            rintro e w5 ⟨v5, us5, rfl, hl5, h5⟩
            obtain ⟨ua, uc, hv5⟩ := (h5.rd 0 (e := 52) (v := v5) (us := us5) rfl).sl.sh
            rw [hl5, srtL_len] at hv5
            generalize hLn : (trL 13 S4 13).length = Ln at *
            subst hv5
            have hB5 := hB.call h5
            have c0 := hB5.bcell 1 rfl 0 rfl
            have c1 := hB5.bcell 1 rfl 1 rfl
            have f0 := hB5.bfree 1 rfl
            have h6 := (hB5.bstore 1 rfl 0 (.int .i64 13)).bstore 1 rfl 1 (.slice ua Ln uc)
            have d0 := h6.bcell 1 rfl 0 rfl
            have d1 := h6.bcell 1 rfl 1 rfl
            clear hB h5 hB5 hLn
            go_wp2_with fail
            refine bodyPost_ret (v := .agg #[.int .i64 13, .slice ua Ln uc]) (by simp [results, Try.results54, go_sem, d0, d1]) rfl ?_
            have h7 := h6.perm (L' := box 101 g [cv, .int .i64 pp, .int .u64 ss] :: ((own2 (.slice ua Ln uc) us5 (srtL (trL 13 S4 13)) ++ L) ++ [box 41 w.heap.size [.int .i64 13, .slice ua Ln uc]])) (by
              simp only [List.set_cons_succ, List.set_cons_zero, List.cons_append]
              exact (by (try simp only [own2, List.cons_append, List.nil_append, List.append_nil]); classical exact List.perm_iff_count.2 (fun a => by simp only [List.cons_append, List.nil_append, List.append_nil, List.count_append, List.count_cons, List.count_nil] <;> omega)))
            exact ⟨_, _, _, us5, by simp [knL], rfl, hl5, ⟨pp, ss, HP0.out.1, by have := HP0.out.2; omega, h7.sub ((List.sublist_append_left _ _).cons_cons _)⟩⟩
end Go.Proofs.Ytejncephbafcdaa
end

section
/- Plain: complements, derived and residual designs of the known designs. -/
namespace Go.Proofs.Ytejncephbafcdaa
set_option linter.unusedSimpArgs false
set_option linter.unusedVariables false

/-- what holds of the derived design or the residual one, on the set S of points -/
def chkR (A : List (List Int)) (k : Nat) (S : List Int) (q : List Int) : Bool :=
  decide (0 < S.length) && decide (S.length ≤ 1000) && ((List.range A.length).all fun j => decide (j = k) || decide (0 < (rsB (xat A j) S).length)) &&
  dOk S.length (srtL (resR A k S A.length)) && prmB S.length (srtL (resR A k S A.length)) && decide (prmV S.length (srtL (resR A k S A.length)) = q)
def chkC1 (P : Nat) (A : List (List Int)) : Bool := dOk P A && prmB P A && A.all (fun b => b.length != P) && decide (0 < A.length)
def chkC2 (P : Nat) (A X : List (List Int)) : Bool := dOk P X && X.all (fun b => b.length != P) && decide (srtL (cplL P X) = A)
/-- the numbers of blocks on two points of a complement -/
def lamC (A : List (List Int)) (q : List Int) : Int := A.length - 2 * nth q 2 + nth q 4
def chkC3 (P : Nat) (A X : List (List Int)) (q : List Int) : Bool :=
  !(decide (1 < (P : Int) - nth q 3) && decide (0 < lamC A q)) || (prmB P X && decide (prmV P X = [(P : Int), (A.length : Int), A.length - nth q 2, P - nth q 3, lamC A q]))
def chkC4 (P : Nat) (A : List (List Int)) (q : List Int) : Bool :=
  decide (A.length ≠ P) || decide (nth q 4 < 2) || decide (nth q 3 - nth q 4 < 2) ||
  ((List.range A.length).all fun k => chkR A k (xat A k) [nth q 3, P - 1, nth q 3 - 1, nth q 4, nth q 4 - 1] && chkR A k (cplB P (xat A k)) [P - nth q 3, P - 1, nth q 3, nth q 3 - nth q 4, nth q 4])
def chkC (d : Nat × List (List Int)) : Bool :=
  chkC1 d.1 d.2 && chkC2 d.1 d.2 (srtL (cplL d.1 d.2)) && chkC3 d.1 d.2 (srtL (cplL d.1 d.2)) (prmV d.1 d.2) && chkC4 d.1 d.2 (prmV d.1 d.2)
theorem kn_chk : ∀ d ∈ knL, chkC d = true := by decide +kernel
/-- the numbers of a known design -/
def chkN (d : Nat × List (List Int)) : Bool := ((prmV d.1 d.2).all fun x => decide (0 ≤ x) && decide (x ≤ 100)) && decide (nth (prmV d.1 d.2) 0 = d.1) && decide (nth (prmV d.1 d.2) 1 = d.2.length)
theorem kn_num : ∀ d ∈ knL, chkN d = true := by decide +kernel
end Go.Proofs.Ytejncephbafcdaa
end

section
/- Walks: v8Long, v8At of the laws. -/
namespace Go.Proofs.Ytejncephbafcdaa
set_option linter.unusedSimpArgs false
set_option linter.unusedVariables false
open Go.RowKit

set_option maxHeartbeats 2000000 in
theorem v8Long_c (va vb : Value) (xs bs : List UInt8) (w : World) (ha : RdB w va xs) (hb : RdB w vb bs) :
    Calls Try.prog 16 #[va, vb] w fun e w' => e = .returned (.bool (decide (1048576 < (xs.length : Int)) || decide (1048576 < (bs.length : Int)))) ∧ w = w' := by
  have hla := ha.len
  have hlb := hb.len
  have hea := ha.le
  have heb := hb.le
  by_cases h1 : 1048576 < (xs.length : Int)
  · rw [decide_eq_true h1, Bool.true_or]
    go_enter Try.func16, Try.ntmps16
    go_wp2_with fail
    go_ret
    exact ⟨rfl, rfl⟩
  · rw [decide_eq_false h1, Bool.false_or]
    by_cases h2 : 1048576 < (bs.length : Int)
    · rw [decide_eq_true h2]
      go_enter Try.func16, Try.ntmps16
      go_wp2_with fail
      go_ret
      exact ⟨by simp [h1, h2], rfl⟩
    · rw [decide_eq_false h2]
      go_enter Try.func16, Try.ntmps16
      go_wp2_with fail
      go_ret
      exact ⟨by simp [h1, h2], rfl⟩
set_option maxHeartbeats 2000000 in
theorem v8At_c (v : Value) (bs : List UInt8) (k : Nat) (n : Int) (w : World) (hb : RdB w v bs) (hk : k ≤ 1000000) :
    Calls Try.prog 22 #[v, .int .i64 k, .int .i64 n] w (AnInt 0 (max (n - 1) 0) fun w' => w = w') := by
  have hln := hb.len
  have hle := hb.le
  by_cases h1 : n ≤ 1
  · go_enter Try.func22, Try.ntmps22
    go_wp2_with fail
    go_ret
    exact ⟨0, by omega, by omega, rfl, rfl⟩
  · by_cases h2 : k < bs.length
    · have hc := hb.cell k h2
      have hx := hb.ix .i64 (k : Int) (by omega) (by omega)
      rw [Int.toNat_natCast] at hx
      obtain ⟨b0, b1⟩ := bnth_bd bs k
      go_enter Try.func22, Try.ntmps22
      go_wp2_with fail
      go_ret
      have := Int.emod_nonneg (bnth bs k) (show n ≠ 0 by omega)
      have := Int.emod_lt_of_pos (bnth bs k) (show 0 < n by omega)
      exact ⟨_, by omega, by omega, rfl, rfl⟩
    · go_enter Try.func22, Try.ntmps22
      go_wp2_with fail
      go_ret
      exact ⟨0, by omega, by omega, rfl, rfl⟩
end Go.Proofs.Ytejncephbafcdaa
end

section
/- Known designs: what holds of them, and their draw. -/
namespace Go.Proofs.Ytejncephbafcdaa
set_option linter.unusedSimpArgs false
set_option linter.unusedVariables false
open Go.RowKit
attribute [local go_sem ↓] Go.wp_at_zero Go.wp_at_succ

/-! ### what holds of a known design -/
structure RF (A : List (List Int)) (k : Nat) (S : List Int) (q : List Int) : Prop where
  ne : S ≠ []
  le : S.length ≤ 1000
  rs : ∀ j, j < A.length → (j : Int) ≠ k → rsB (xat A j) S ≠ []
  ok : dOk S.length (srtL (resR A k S A.length)) = true
  pc : prmC S.length (srtL (resR A k S A.length)) = 0
  pv : prmV S.length (srtL (resR A k S A.length)) = q
theorem RF.of {A : List (List Int)} {k : Nat} {S q : List Int} (h : chkR A k S q = true) : RF A k S q := by
  unfold chkR at h
  simp only [Bool.and_eq_true, decide_eq_true_eq, List.all_eq_true, List.mem_range, Bool.or_eq_true] at h
  obtain ⟨⟨⟨⟨⟨h1, h2⟩, h3⟩, h4⟩, h5⟩, h6⟩ := h
  refine ⟨fun e => by rw [e] at h1; exact absurd h1 (by decide), h2, fun j hj hne e => ?_, h4, by rw [prmC, if_pos h5], h6⟩
  rcases h3 j hj with h | h
  · exact hne (by omega)
  · rw [e] at h; exact absurd h (by decide)
structure KnF (P : Nat) (A : List (List Int)) (V B R K L : Int) : Prop where
  p : prmV P A = [V, B, R, K, L]
  eV : V = P
  eB : B = A.length
  bd : (0 ≤ R ∧ R ≤ 100) ∧ (0 ≤ K ∧ K ≤ 100) ∧ (0 ≤ L ∧ L ≤ 100)
  bV : 0 ≤ V ∧ V ≤ 100
  bB : 1 ≤ B ∧ B ≤ 100
  ok : dOk P A = true
  nf : ∀ b ∈ A, b.length ≠ P
  okX : dOk P (srtL (cplL P A)) = true
  nfX : ∀ b ∈ srtL (cplL P A), b.length ≠ P
  back : srtL (cplL P (srtL (cplL P A))) = A
  c3 : 1 < V - K → 0 < B - 2 * R + L → prmC P (srtL (cplL P A)) = 0 ∧ prmV P (srtL (cplL P A)) = [V, B, B - R, V - K, B - 2 * R + L]
  c4 : B = V → ¬ L < 2 → ¬ K - L < 2 → ∀ k, k < A.length → RF A k (xat A k) [K, V - 1, K - 1, L, L - 1] ∧ RF A k (cplB P (xat A k)) [V - K, V - 1, K, K - L, L]
theorem kn_fact {P : Nat} {A : List (List Int)} (h : (P, A) ∈ knL) : ∃ V B R K L, KnF P A V B R K L := by
  have h1 := kn_chk _ h
  have h2 := kn_num _ h
  unfold chkC chkC1 chkC2 chkC3 chkC4 at h1
  unfold chkN at h2
  simp only [Bool.and_eq_true] at h1 h2
  obtain ⟨⟨⟨⟨⟨⟨a1, a2⟩, a3⟩, a4⟩, ⟨b1, b2⟩, b3⟩, c3⟩, c4⟩ := h1
  obtain ⟨⟨d1, d2⟩, d3⟩ := h2
  have hv := prm_val a2
  have e0 : nth (prmV P A) 0 = P := of_decide_eq_true d2
  rw [hv] at d1 c3 c4
  have hb : ∀ x ∈ [(P : Int), (A.length : Int), nth (repL P A) 0, ((xat A 0).length : Int), nth (parL P A) 0], 0 ≤ x ∧ x ≤ 100 := fun x hx => by
    have := List.all_eq_true.1 d1 x hx
    simpa using this
  have nf : ∀ b ∈ A, b.length ≠ P := fun b hb' => by have := List.all_eq_true.1 a3 b hb'; simpa using this
  have nfX : ∀ b ∈ srtL (cplL P A), b.length ≠ P := fun b hb' => by have := List.all_eq_true.1 b2 b hb'; simpa using this
  refine ⟨_, _, _, _, _, ⟨hv, rfl, rfl, ⟨hb _ (by simp), hb _ (by simp), hb _ (by simp)⟩, hb _ (by simp), ⟨by have := of_decide_eq_true a4; omega, (hb (A.length : Int) (by simp)).2⟩, a1, nf, b1, nfX, of_decide_eq_true b3, fun g1 g2 => ?_, fun g1 g2 g3 k hk => ?_⟩⟩
  · rw [Bool.or_eq_true] at c3
    rcases c3 with c3 | c3
    · exfalso
      have : (decide (1 < (P : Int) - ((xat A 0).length : Int)) && decide (0 < (A.length : Int) - 2 * nth (repL P A) 0 + nth (parL P A) 0)) = true := by
        rw [decide_eq_true g1, decide_eq_true g2]; rfl
      rw [Bool.not_eq_true'] at c3
      have c3' : (decide (1 < (P : Int) - ((xat A 0).length : Int)) && decide (0 < (A.length : Int) - 2 * nth (repL P A) 0 + nth (parL P A) 0)) = false := c3
      rw [this] at c3'; cases c3'
    · rw [Bool.and_eq_true] at c3
      exact ⟨by rw [prmC, if_pos c3.1], of_decide_eq_true c3.2⟩
  · simp only [Bool.or_eq_true, decide_eq_true_eq] at c4
    have hc : ((List.range A.length).all fun k => chkR A k (xat A k) [((xat A 0).length : Int), (P : Int) - 1, ((xat A 0).length : Int) - 1, nth (parL P A) 0, nth (parL P A) 0 - 1] && chkR A k (cplB P (xat A k)) [(P : Int) - ((xat A 0).length : Int), (P : Int) - 1, ((xat A 0).length : Int), ((xat A 0).length : Int) - nth (parL P A) 0, nth (parL P A) 0]) = true := by
      rcases c4 with ((c4 | c4) | c4) | c4
      · exact absurd (show A.length = P by omega) c4
      · exact absurd c4 g2
      · exact absurd c4 g3
      · exact c4
    have := List.all_eq_true.1 hc k (List.mem_range.2 hk)
    rw [Bool.and_eq_true] at this
    exact ⟨RF.of this.1, RF.of this.2⟩

/-! ### the draw -/
def MakesKb (w : World) (e : Ending) (w' : World) : Prop := ∃ (P : Nat) (A : List (List Int)) (v : Value) (us : List Value), (P, A) ∈ knL ∧ e = .returned (dv P v) ∧ RII w' v us A ∧ St w.heap.size w w' []
set_option maxHeartbeats 2000000 in
theorem V8Balanced_c (w : World) (cv : Value) (bs : List UInt8) (hb : RdB w cv bs) : Calls Try.prog 17 #[cv] w (MakesKb w) := by
  have hS0 := (St.refl w).newboxF 41 #[.int .i64 0, .slice none 0 0]
  go_enter Try.func17, Try.ntmps17
  go_wp2_with fail
  refine (l00FromS w _ cv bs _ hb hS0).mono ?_
  rintro e w1 ⟨g, rfl, h1⟩
  go_wp2_with fail
  refine (l10Known_c w _ cv bs g _ _ hb h1 (by omega)).mono ?_
  rintro e w2 ⟨P, A, v, us, hm, rfl, hl, h2⟩
  have Hm := Lib.hid hm
  have h3 := h2.perm (L' := box 41 w.heap.size [.int .i64 0, .slice none 0 0] :: own2 v us A) (by (try simp only [own2, List.cons_append, List.nil_append, List.append_nil]); classical exact List.perm_iff_count.2 (fun a => by simp only [List.cons_append, List.nil_append, List.append_nil, List.count_append, List.count_cons, List.count_nil] <;> omega))
  have b0 := h3.box 0 (e := 41) rfl 0 rfl
  have b1 := h3.box 0 (e := 41) rfl 1 rfl
  have f0 := h3.bfree 0 (e := 41) rfl
  obtain ⟨ra, rc, hre⟩ := (h3.rd 1 (e := 52) (v := v) (us := us) rfl).sl.sh
  rw [hl] at hre
  subst hre
  have h7 := (h3.bstore 0 (e := 41) rfl 0 (.int .i64 P)).bstore 0 (e := 41) rfl 1 (.slice ra A.length rc)
  simp only [List.set_cons_zero, List.set_cons_succ] at h7
  have d0 := h7.box 0 (e := 41) rfl 0 rfl
  have d1 := h7.box 0 (e := 41) rfl 1 rfl
  have hR7 := h7.riiS (v := .slice ra A.length rc) (us := us) (A := A) (List.sublist_cons_self _ _) hl
  clear h1 h2 h3 hm
  unfold dv
  go_wp2_with fail
  refine bodyPost_ret (v := .agg #[.int .i64 P, .slice ra A.length rc]) (by simp [results, Try.results17, go_sem, d0, d1]) rfl ?_
  exact ⟨P, A, _, us, Hm.out, rfl, hR7, h7.st.sub (List.nil_sublist _)⟩

/-- parameters in a box -/
def BoxP (w : World) (g : Nat) (a b c d e : Int) : Prop := w.cell? ⟨g, 0, none⟩ = some (.int .i64 a) ∧ w.cell? ⟨g, 1, none⟩ = some (.int .i64 b) ∧ w.cell? ⟨g, 2, none⟩ = some (.int .i64 c) ∧ w.cell? ⟨g, 3, none⟩ = some (.int .i64 d) ∧ w.cell? ⟨g, 4, none⟩ = some (.int .i64 e)
theorem BoxP.keep {w0 w : World} {g : Nat} {a b c d e : Int} (h : BoxP w0 g a b c d e) (hb : Below w0.heap.size w0 w) : BoxP w g a b c d e := by
  obtain ⟨h1, h2, h3, h4, h5⟩ := h
  have hg : g < w0.heap.size := by
    rcases Nat.lt_or_ge g w0.heap.size with h | h
    · exact h
    · rw [World.cell?, Array.getElem?_eq_none h] at h1; cases h1
  exact ⟨by rw [hb.cell hg]; exact h1, by rw [hb.cell hg]; exact h2, by rw [hb.cell hg]; exact h3, by rw [hb.cell hg]; exact h4, by rw [hb.cell hg]; exact h5⟩
theorem pmV_5 (a b c d e : Int) : pmV [a, b, c, d, e] = .agg #[.int .i64 a, .int .i64 b, .int .i64 c, .int .i64 d, .int .i64 e] := rfl
end Go.Proofs.Ytejncephbafcdaa
end

section
/- The law FnComplement, walked. -/
namespace Go.Proofs.Ytejncephbafcdaa
set_option linter.unusedSimpArgs false
set_option linter.unusedVariables false
open Go.RowKit
attribute [local go_sem ↓] Go.wp_at_zero Go.wp_at_succ

/-- what stays: the second argument, the design and its box, its parameters' box, and all that was there -/
structure LC (w : World) (cm : Value) (ms : List UInt8) (a : Option Addr) (c : Nat) (us : List Value) (A : List (List Int)) (P V B R K L : Int) (g5 g6 : Nat) (W : World) : Prop where
  rm : RdB W cm ms
  rd : RII W (.slice a A.length c) us A
  bd : BoxD W g5 P (.slice a A.length c)
  bp : BoxP W g6 V B R K L
  st : St w.heap.size w W []
theorem LC.call {w W W' : World} {cm : Value} {ms : List UInt8} {a : Option Addr} {c : Nat} {us : List Value} {A : List (List Int)} {P V B R K L : Int} {g5 g6 : Nat} {M : List Ent} (h : LC w cm ms a c us A P V B R K L g5 g6 W) (h' : St W.heap.size W W' M) : LC w cm ms a c us A P V B R K L g5 g6 W' :=
  ⟨h.rm.keep h'.below, h.rd.keep h'.below, h.bd.keep h'.below, h.bp.keep h'.below, h.st.call0 h'.out⟩
/-- parameters in a box, and a code -/
def QB (V B R K L : Int) (s13 s14 : Value) (W : World) : Prop := ∃ (g : Nat) (q0 q1 q2 q3 q4 C : Int), s13 = .pointer (some ⟨g, 0, none⟩) ∧ s14 = .int .i64 C ∧ BoxP W g q0 q1 q2 q3 q4 ∧
  Hid (1 < V - K → 0 < B - 2 * R + L → C = 0 ∧ q0 = V ∧ q1 = B ∧ q2 = B - R ∧ q3 = V - K ∧ q4 = B - 2 * R + L)
theorem newD (w : World) (P : Int) (v : Value) : St w.heap.size w (w.alloc (.cells #[.int .i64 P, v] 41)) [] ∧ BoxD (w.alloc (.cells #[.int .i64 P, v] 41)) w.heap.size P v := by
  have hN := (St.refl w).newboxF 41 #[.int .i64 P, v]
  exact ⟨hN.out, hN.bcell 0 rfl 0 rfl, hN.bcell 0 rfl 1 rfl⟩
theorem newP (w : World) (a b c d e : Int) : St w.heap.size w (w.alloc (.cells #[.int .i64 a, .int .i64 b, .int .i64 c, .int .i64 d, .int .i64 e] 44)) [] ∧ BoxP (w.alloc (.cells #[.int .i64 a, .int .i64 b, .int .i64 c, .int .i64 d, .int .i64 e] 44)) w.heap.size a b c d e := by
  have hN := (St.refl w).newboxF 44 #[.int .i64 a, .int .i64 b, .int .i64 c, .int .i64 d, .int .i64 e]
  exact ⟨hN.out, hN.bcell 0 rfl 0 rfl, hN.bcell 0 rfl 1 rfl, hN.bcell 0 rfl 2 rfl, hN.bcell 0 rfl 3 rfl, hN.bcell 0 rfl 4 rfl⟩
set_option maxHeartbeats 16000000 in
set_option maxRecDepth 100000 in
theorem FnComplement_law (w : World) (cv : Value) (bs : List UInt8) (cm : Value) (ms : List UInt8) (hb : RdB w cv bs) (hm : RdB w cm ms) :
    Calls Try.prog 4 #[cv, cm] w (GivesB w true) := by
  have KL := v8Long_c cv cm bs ms w hb hm
  generalize (decide (1048576 < (bs.length : Int)) || decide (1048576 < (ms.length : Int))) = lo at KL
  cases lo
  case true =>
    go_enter Try.func4, Try.ntmps4
    go_wp2_with fail
    refine KL.mono ?_
    rintro e w1 ⟨rfl, rfl⟩
    go_wp2_with fail
    go_ret
    exact ⟨rfl, St.refl _⟩
  case false =>
    go_enter Try.func4, Try.ntmps4
    go_wp2_with fail
    refine KL.mono ?_
    clear KL
    rintro e w1 ⟨rfl, rfl⟩
    go_wp2_with fail
    refine (V8Balanced_c w cv bs hb).mono ?_
    rintro e w1 ⟨P, A, v, us, hmem, rfl, rd, ht⟩
    obtain ⟨V, B, R, K, Lm, hF⟩ := kn_fact hmem
    have HF := Lib.hid hF
    obtain ⟨⟨R0, R1⟩, ⟨K0, K1⟩, ⟨L0, L1⟩⟩ := hF.bd
    obtain ⟨V0, V1⟩ := hF.bV
    obtain ⟨B0, B1⟩ := hF.bB
    have HeB := Lib.hid hF.eB
    have HeV := Lib.hid hF.eV
    obtain ⟨a, c, hsh⟩ := rd.1.sl.sh
    rw [rd.2.1] at hsh
    subst hsh
    have rm := hm.keep ht.below
    obtain ⟨hn, bd⟩ := newD w1 P (.slice a A.length c)
    have rd := rd.keep hn.below
    have rm := rm.keep hn.below
    have ht := ht.call0 hn
    have b0 := bd.1
    have b1 := bd.2
    have KP := Lib.hid (sParametersOf_c P (.slice a A.length c) us A _ rd HF.out.ok)
    rw [HF.out.p] at KP
    unfold dv at KP
    clear hF hmem hb hm hn
    unfold dv
    go_wp2_with fail
    refine KP.out.mono ?_
    clear KP b0 b1
    rintro e w2 ⟨rfl, h2⟩
    have rd := rd.keep h2.below
    have rm := rm.keep h2.below
    have bd := bd.keep h2.below
    have ht := ht.call0 h2
    obtain ⟨hn, bp⟩ := newP w2 V B R K Lm
    have hE : LC w cm ms a c us A P V B R K Lm _ _ _ := ⟨rm.keep hn.below, rd.keep hn.below, bd.keep hn.below, bp, ht.call0 hn⟩
    clear rd rm bd ht h2 hn bp
    have b0 := hE.bd.1
    have b1 := hE.bd.2
    have KC := Lib.hid (ComplementDesign_c P (.slice a A.length c) us A _ hE.rd HF.out.ok HF.out.nf)
    unfold dv at KC
    rw [pmV_5]
    generalize hXe : srtL (cplL P A) = X at *
    have HX := Lib.hid hXe
    clear hXe
    go_wp2_with fail
    refine KC.out.mono ?_
    clear KC b0 b1
    rintro e w3 ⟨vx, ux, rfl, hlx, h3⟩
    have hE := hE.call h3
    have rx := h3.rii hlx
    obtain ⟨ax, cx, hsx⟩ := rx.1.sl.sh
    rw [rx.2.1] at hsx
    subst hsx
    obtain ⟨hn, bx⟩ := newD w3 P (.slice ax X.length cx)
    have hE := hE.call hn
    have rx := rx.keep hn.below
    clear h3 hlx hn
    have b0 := bx.1
    have b1 := bx.2
    have KC := Lib.hid (ComplementDesign_c P (.slice ax X.length cx) ux X _ rx (by rw [← HX.out]; exact HF.out.okX) (by rw [← HX.out]; exact HF.out.nfX))
    rw [show srtL (cplL P X) = A by rw [← HX.out]; exact HF.out.back] at KC
    unfold dv at KC ⊢
    go_wp2_with fail
    refine KC.out.mono ?_
    clear KC b0 b1
    rintro e w4 ⟨vy, uy, rfl, hly, h4⟩
    have hE := hE.call h4
    have rx := rx.keep h4.below
    have bx := bx.keep h4.below
    have ry := h4.rii hly
    obtain ⟨ay, cy, hsy⟩ := ry.1.sl.sh
    rw [ry.2.1] at hsy
    subst hsy
    obtain ⟨hn, by'⟩ := newD w4 P (.slice ay A.length cy)
    have hE := hE.call hn
    have rx := rx.keep hn.below
    have bx := bx.keep hn.below
    have ry := ry.keep hn.below
    clear h4 hly hn
    have y0 := by'.1
    have y1 := by'.2
    have b0 := hE.bd.1
    have b1 := hE.bd.2
    have KS := Lib.hid (show Calls Try.prog 20 #[dv P (.slice ay A.length cy), dv P (.slice a A.length c)] _ (GivesB _ true) from by
      have := SameDesign_c P P (.slice ay A.length cy) (.slice a A.length c) uy us A A _ ry hE.rd
      rwa [decide_eq_true ⟨rfl, rfl⟩] at this)
    unfold dv at KS ⊢
    go_upto_region 12 with (go_at_call 20; refine KS.out.mono ?_; rintro e w5 ⟨rfl, h5⟩; have hE5 := hE.call h5; have p0 := hE5.bp.1; have p1 := hE5.bp.2.1; have p2 := hE5.bp.2.2.1; have p3 := hE5.bp.2.2.2.1; have p4 := hE5.bp.2.2.2.2; have rx5 := rx.keep h5.below; have bx5 := bx.keep h5.below; have x0 := bx5.1; have x1 := bx5.2)
    clear h5 hE rx bx ry by' y0 y1 b0 b1 KS
    go_cut [13, 14] from 24 (fun s13 s14 w' => LC w cm ms a c us A P V B R K Lm w1.heap.size w2.heap.size w' ∧ QB V B R K Lm s13 s14 w')
    case first =>
      have KQ := Lib.hid (ParametersOf_c P (.slice ax X.length cx) ux X _ rx5 (by rw [← HX.out]; exact HF.out.okX))
      have HQ : Hid (1 < V - K → 0 < B - 2 * R + Lm → prmC P X = 0 ∧ nth (prmV P X) 0 = V ∧ nth (prmV P X) 1 = B ∧ nth (prmV P X) 2 = B - R ∧ nth (prmV P X) 3 = V - K ∧ nth (prmV P X) 4 = B - 2 * R + Lm) := fun g1 g2 => by
        have hc3 := HF.out.c3 g1 g2
        rw [HX.out] at hc3
        rw [hc3.1, hc3.2]
        exact ⟨rfl, rfl, rfl, rfl, rfl, rfl⟩
      unfold dv at KQ
      generalize prmV P X = Q at *
      generalize prmC P X = C at *
      go_wp2_with fail
      refine KQ.out.mono ?_
      clear KQ
      rintro e w6 ⟨rfl, h6⟩
      unfold pmV
      have hE6 := hE5.call h6
      obtain ⟨hn, bq⟩ := newP w6 (nth Q 0) (nth Q 1) (nth Q 2) (nth Q 3) (nth Q 4)
      have hE7 := hE6.call hn
      clear hE5 hE6 h6 hn p0 p1 p2 p3 p4 x0 x1
      go_wp2_with fail
      go_meet
      case rel => exact ⟨hE7, _, _, _, _, _, _, _, rfl, rfl, bq, HQ⟩
    case rest =>
      clear hE5 p0 p1 p2 p3 p4 rx5 bx5 x0 x1
      obtain ⟨hE5, g, t0, t1, t2, t3, t4, C, rfl, rfl, bq, HQ⟩ := hcut
      have p0 := hE5.bp.1
      have p1 := hE5.bp.2.1
      have p2 := hE5.bp.2.2.1
      have p3 := hE5.bp.2.2.2.1
      have p4 := hE5.bp.2.2.2.2
      have q0 := bq.1
      have q1 := bq.2.1
      have q2 := bq.2.2.1
      have q3 := bq.2.2.2.1
      have q4 := bq.2.2.2.2
      go_upto_region 13 with fail
      go_cut [110] from 24 (fun t w' => t = .bool false ∧ LC w cm ms a c us A P V B R K Lm w1.heap.size w2.heap.size w')
      case first =>
        by_cases g1 : 1 < V - K
        · by_cases g2 : 0 < B - 2 * R + Lm
          · obtain ⟨rfl, rfl, rfl, rfl, rfl, rfl⟩ := HQ.out g1 g2
            go_wp2_with fail
            go_meet
            case rel => exact ⟨rfl, hE5⟩
          · go_wp2_with fail
            go_meet
            case rel => exact ⟨rfl, hE5⟩
        · go_wp2_with fail
          go_meet
          case rel => exact ⟨rfl, hE5⟩
      clear hE5 p0 p1 p2 p3 p4 q0 q1 q2 q3 q4 bq HQ
      obtain ⟨rfl, hE⟩ := hcut
      have p0 := hE.bp.1
      have p1 := hE.bp.2.1
      have p3 := hE.bp.2.2.2.1
      have p4 := hE.bp.2.2.2.2
      by_cases hBV : B = V
      · have fBV := ne_f hBV
        have HBV := Lib.hid hBV
        clear hBV
        by_cases hL : Lm < 2
        · go_wp2_with fail
          go_ret
          exact ⟨rfl, hE.st⟩
        · by_cases hKL : K - Lm < 2
          · go_wp2_with fail
            go_ret
            exact ⟨rfl, hE.st⟩
          · go_wp2_with fail
            refine (v8At_c cm ms 0 B _ hE.rm (by omega)).mono ?_
            rintro e w8 ⟨x, x0, x1, rfl, rfl⟩
            obtain ⟨k, rfl⟩ := Int.eq_ofNat_of_zero_le x0
            have hk : k < A.length := by have := HeB.out; omega
            obtain ⟨r1, r2⟩ := HF.out.c4 HBV.out (by omega) (by omega) k hk
            have KD := fun W h => Lib.hid (DerivedDesign_c P (.slice a A.length c) us A k W h HF.out.ok hk r1.rs r1.ne r1.le)
            have KR := fun W h => Lib.hid (ResidualDesign_c P (.slice a A.length c) us A k W h HF.out.ok hk r2.rs r2.ne)
            have o1 := r1.ok
            have o2 := r2.ok
            have c1 := r1.pc
            have c2 := r2.pc
            have v1 := r1.pv
            have v2 := r2.pv
            generalize srtL (resR A k (xat A k) A.length) = D1 at *
            generalize srtL (resR A k (cplB P (xat A k)) A.length) = D2 at *
            generalize (xat A k).length = n1 at *
            generalize (cplB P (xat A k)).length = n2 at *
            have K1 := fun W v us h => Lib.hid (sParametersOf_c n1 v us D1 W h o1)
            have K2 := fun W v us h => Lib.hid (sParametersOf_c n2 v us D2 W h o2)
            rw [c1, v1] at K1
            rw [c2, v2] at K2
            have b0 := hE.bd.1
            have b1 := hE.bd.2
            unfold dv at KD KR K1 K2
            clear r1 r2 o1 o2 c1 c2 v1 v2 p0 p1 p3 p4 x0 x1 hk
            go_wp2_with fail
            refine (KD _ hE.rd).out.mono ?_
            clear KD b0 b1
            rintro e w9 ⟨vx, ux, rfl, hlx, h3⟩
            have hE := hE.call h3
            have rx := h3.rii hlx
            obtain ⟨ax, cx, hsx⟩ := rx.1.sl.sh
            rw [rx.2.1] at hsx
            subst hsx
            obtain ⟨hn, bx⟩ := newD w9 n1 (.slice ax D1.length cx)
            have hE := hE.call hn
            have rx := rx.keep hn.below
            clear h3 hlx hn
            have b0 := hE.bd.1
            have b1 := hE.bd.2
            unfold dv
            go_wp2_with fail
            refine (KR _ hE.rd).out.mono ?_
            clear KR b0 b1
            rintro e w10 ⟨vy, uy, rfl, hly, h4⟩
            have hE := hE.call h4
            have rx := rx.keep h4.below
            have bx := bx.keep h4.below
            have ry := h4.rii hly
            obtain ⟨ay, cy, hsy⟩ := ry.1.sl.sh
            rw [ry.2.1] at hsy
            subst hsy
            obtain ⟨hn, by'⟩ := newD w10 n2 (.slice ay D2.length cy)
            have hE := hE.call hn
            have rx := rx.keep hn.below
            have bx := bx.keep hn.below
            have ry := ry.keep hn.below
            clear h4 hly hn
            have b0 := bx.1
            have b1 := bx.2
            unfold dv
            go_wp2_with fail
            refine (K1 _ _ _ rx).out.mono ?_
            clear K1 b0 b1
            rintro e w11 ⟨rfl, h5⟩
            rw [pmV_5]
            have hE := hE.call h5
            have ry := ry.keep h5.below
            have by' := by'.keep h5.below
            obtain ⟨hn, bu⟩ := newP w11 K (V - 1) (K - 1) Lm (Lm - 1)
            have hE := hE.call hn
            have ry := ry.keep hn.below
            have by' := by'.keep hn.below
            clear h5 hn rx bx
            have b0 := by'.1
            have b1 := by'.2
            go_wp2_with fail
            refine (K2 _ _ _ ry).out.mono ?_
            clear K2 b0 b1
            rintro e w12 ⟨rfl, h6⟩
            rw [pmV_5]
            have hE := hE.call h6
            have bu := bu.keep h6.below
            obtain ⟨hn, bw⟩ := newP w12 (V - K) (V - 1) K (K - Lm) Lm
            have hE := hE.call hn
            have bu := bu.keep hn.below
            clear h6 hn ry by'
            have p0 := hE.bp.1
            have p3 := hE.bp.2.2.2.1
            have p4 := hE.bp.2.2.2.2
            have q0 := bu.1
            have q1 := bu.2.1
            have q2 := bu.2.2.1
            have q3 := bu.2.2.2.1
            have q4 := bu.2.2.2.2
            have r0 := bw.1
            have r1 := bw.2.1
            have r2 := bw.2.2.1
            have r3 := bw.2.2.2.1
            have r4 := bw.2.2.2.2
            go_wp2_with fail
            go_ret
            exact ⟨rfl, hE.st⟩
      · have fBV := ne_t hBV
        go_wp2_with fail
        go_ret
        exact ⟨rfl, hE.st⟩
end Go.Proofs.Ytejncephbafcdaa
end

section
/- How arguments that come in read. How bytes that come in read. -/
namespace Go.Proofs.Ytejncephbafcdaa
set_option linter.unusedSimpArgs false
set_option linter.unusedVariables false
open Go.RowKit


/-- what came in as a slice of integers: nothing, or a row of numbers that fit -/
def IsRow (k : IntKind) (w : World) (a : Option Addr) (len cap : Nat) (zs : List Int) : Prop :=
  (a = none ∧ len = 0 ∧ cap = 0 ∧ zs = []) ∨
  ∃ x, a = some x ∧ len ≤ cap ∧ cap ≤ maxLen ∧ zs.length = cap ∧ (∀ i, i < zs.length → w.cell? (x.add i) = some (.int k (zs.getD i 0))) ∧ ∀ n ∈ zs, (Lit.int k n).wf = true

theorem IsRow.rd {k : IntKind} {w : World} {a : Option Addr} {len cap : Nat} {zs : List Int} (h : IsRow k w a len cap zs) : Rd w (.slice a len cap) ((zs.take len).map (Value.int k)) := by
  rcases h with ⟨rfl, rfl, rfl, rfl⟩ | ⟨x, rfl, h1, h2, h3, h4, h5⟩
  · exact Rd.nil w
  · have hl : ((zs.take len).map (Value.int k)).length = len := by simp; omega
    refine ⟨⟨some x, cap, by rw [hl], by omega, h2, .inr (by simp)⟩, ?_⟩
    intro i u hu
    have hi : i < len := by have := (List.getElem?_eq_some_iff.1 hu).1; omega
    have := h4 i (by omega)
    simp only [List.getElem?_map, List.getElem?_take, hi, if_true] at hu
    rw [List.getElem?_eq_getElem (by omega)] at hu
    simp at hu
    simp only [el]
    rw [this, ← hu]
    simp [List.getD, List.getElem?_eq_getElem (show i < zs.length by omega)]


theorem IsRow.rdB {w : World} {a : Option Addr} {len cap : Nat} {zs : List Int} (h : IsRow .u8 w a len cap zs) : ∃ bs, RdB w (.slice a len cap) bs := by
  refine ⟨(zs.take len).map fun n => UInt8.ofNat n.toNat, ?_⟩
  have h1 := h.rd
  have hw : ∀ n ∈ zs, 0 ≤ n ∧ n ≤ 255 := by
    rcases h with ⟨_, _, _, rfl⟩ | ⟨_, _, _, _, _, _, h5⟩
    · simp
    · intro n hn; have := h5 n hn; simpa [Lit.wf, IntKind.min, IntKind.max, IntKind.signed, IntKind.bits] using this
  unfold RdB bv
  rw [List.map_map]
  rw [List.map_congr_left (g := Value.int .u8)]
  · exact h1
  · intro n hn
    have := hw n (List.mem_of_mem_take hn)
    simp only [Function.comp]
    congr 1
    rw [UInt8.toNat_ofNat']
    omega

end Go.Proofs.Ytejncephbafcdaa
end

section
/- FnComplement holds: for every input the call returns true and leaves its arguments as they are. No condition. -/
namespace Go.Proofs.Ytejncephbafcdaa.fnComplement
set_option linter.unusedSimpArgs false
set_option linter.unusedVariables false
open Go.ChangeShapes Go.WideShapes Go.ChangeAt Go.RowKit
set_option linter.unusedVariables false

theorem own : ownKnob Try.prog.godebug = none := by kernel_rfl
theorem laidOut : laidOutB Try.prog = true := by kernel_rfl

set_option maxRecDepth 100000 in
theorem lifted (os : Os) (started : os.Started) (H : Type) (enc : TypeId × Value → H) :
    ReturnsInHanded {} Try.checked os 4 .any (Rows.fnComplementSpec.pre6 enc Try.prog Try.f4 Rows.fnComplementRow.domain false) (Rows.fnComplementSpec.post enc Try.prog Try.f4 false true false false) := by
  refine returnsInHanded_of_change (C := Try.checked) own started (by kernel_rfl) Try.func4
    (ChangeSpec.witness6 (enc := enc) (C := Try.checked) false ⟨#[], #[.slice none 0 0, .slice none 0 0], []⟩ 8 (by kernel_rfl) (by kernel_rfl) (by kernel_rfl) (by kernel_rfl)) ?_
  intro W base args ds gs before hval0 hW hcnd _
  have hval : ∀ (j : Nat) t v, Try.f4.params[j]? = some t → args[j]? = some v → Value.okWide Try.prog W .any base t v := hval0
  have hW' := hW
  obtain ⟨p, q, hA0, hV, rfl, hfz, hnd⟩ := hW
  have hA : DataW.TrodAll enc Try.prog W 0 (fun _ => true) true Try.f4.params.toList args.toList ds p := hA0
  rw [Try.params4] at hA hval
  obtain ⟨v0, vs0, d0, ds0, p0, q0, hargs, rfl, rfl, h0, r0⟩ := trodAll_cons hA
  obtain ⟨v1, vs1, d1, ds1, p1, q1, rfl, rfl, rfl, h1, r1⟩ := trodAll_cons r0
  obtain ⟨rfl, rfl, rfl⟩ := trodAll_nil r1
  obtain rfl : args = #[v0, v1] := by cases args; simp_all
  obtain ⟨rfl, rfl⟩ := trodVars_none hV
  obtain ⟨a0, len0, cap0, rfl⟩ := okWide_slice Try.underlying22 (hval 0 22 v0 rfl rfl)
  have k0 := h0
  have lt0 : ∀ x ∈ p0, x.block < W.heap.size := by obtain ⟨m, hm⟩ := k0; exact DataW.trod_lt m _ _ _ hm
  obtain ⟨bs0, rd0⟩ : ∃ bs, RdB W (.slice a0 len0 cap0) bs := by
    obtain ⟨fuel, hf⟩ := h0
    rcases open_ints Try.underlying22 Try.underlying5 (by kernel_rfl) hf with ⟨hcs, _⟩ | ⟨x, l, c, zs, hcs, _, hl, hm, hz, _, hcell, hwz⟩
    · simp [Value.cells] at hcs
      obtain ⟨rfl, rfl, rfl⟩ := hcs
      exact IsRow.rdB (zs := []) (.inl ⟨rfl, rfl, rfl, rfl⟩)
    · simp [Value.cells] at hcs
      obtain ⟨rfl, rfl, rfl⟩ := hcs
      exact IsRow.rdB (zs := zs) (.inr ⟨_, rfl, hl, hm, by simpa using hz, hcell, hwz⟩)
  obtain ⟨a1, len1, cap1, rfl⟩ := okWide_slice Try.underlying22 (hval 1 22 v1 rfl rfl)
  have k1 := h1
  have lt1 : ∀ x ∈ p1, x.block < W.heap.size := by obtain ⟨m, hm⟩ := k1; exact DataW.trod_lt m _ _ _ hm
  obtain ⟨bs1, rd1⟩ : ∃ bs, RdB W (.slice a1 len1 cap1) bs := by
    obtain ⟨fuel, hf⟩ := h1
    rcases open_ints Try.underlying22 Try.underlying5 (by kernel_rfl) hf with ⟨hcs, _⟩ | ⟨x, l, c, zs, hcs, _, hl, hm, hz, _, hcell, hwz⟩
    · simp [Value.cells] at hcs
      obtain ⟨rfl, rfl, rfl⟩ := hcs
      exact IsRow.rdB (zs := []) (.inl ⟨rfl, rfl, rfl, rfl⟩)
    · simp [Value.cells] at hcs
      obtain ⟨rfl, rfl, rfl⟩ := hcs
      exact IsRow.rdB (zs := zs) (.inr ⟨_, rfl, hl, hm, by simpa using hz, hcell, hwz⟩)
  clear hA0 hval0
  refine (FnComplement_law W _ bs0 _ bs1 rd0 rd1).mono fun e W' ⟨he, hst⟩ => ?_
  have bel := hst.below
  subst he
  exact ⟨_, rfl, _, _, _, [], _, [], hW', trodAll_mk1 (shut_bool Try.underlying4 _), (trodAll_cons_mk (Below.trod laidOut (by kernel_rfl) (of_decide_eq_true (by kernel_rfl)) k0 bel lt0) (trodAll_cons_mk (Below.trod laidOut (by kernel_rfl) (of_decide_eq_true (by kernel_rfl)) k1 bel lt1) trodAll_mk0)), rfl, bel.frame _, fun h => by cases h⟩

theorem over : Rows.fnComplementRow.holds Try.pinned (OpenSpec.ofChange Rows.fnComplementSpec) :=
  OpenClaim.holds_of_wide 4 Try.f4 rfl rfl rfl rfl rfl rfl rfl ⟨rfl, rfl, rfl, rfl, rfl⟩ rfl rfl rfl rfl rfl (by kernel_rfl) Try.func4 (by kernel_rfl)
    (of_decide_eq_true (by kernel_rfl)) (by unfold Func.isWrapper; first | (rw [if_pos (by decide +kernel)]; kernel_rfl) | (rw [if_neg (by decide +kernel)]; exact ⟨rfl, rfl⟩))
    (fun os started H enc _ => lifted os started H enc)

theorem proved : Rows.FnComplementSaid := over
#print axioms proved
end Go.Proofs.Ytejncephbafcdaa.fnComplement
end
