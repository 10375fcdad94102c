/- The texts of this claim, run 6: Put Kn PCp V8l Cpl DsF DsH DsE. -/
import Derived.Test.YtejncephbafcdaaK1
import Derived.Test.YtejncephbafcdaaK3
import Derived.Test.YtejncephbafcdaaK4
import Derived.Test.YtejncephbafcdaaK5

section
/- Walks: the reference puts a number into an increasing list. -/
namespace Go.Proofs.Ytejncephbafcdaa
set_option linter.unusedSimpArgs false
set_option linter.unusedVariables false
open Go.RowKit


/-- what l00Put has made so far -/
def PutI (xs : List Int) (n : Int) (k : Nat) (b : Bool) (ys : List Int) : Prop :=
  (b = false → ys = xs.take k ∧ putL xs n = xs.take k ++ putL (xs.drop k) n) ∧ (b = true → ys ++ xs.drop k = putL xs n)
theorem PutI.len {xs : List Int} {n : Int} {k : Nat} {b : Bool} {ys : List Int} (h : PutI xs n k b ys) (hk : k ≤ xs.length) : ys.length ≤ xs.length + 1 := by
  cases b
  · rw [(h.1 rfl).1, List.length_take]; omega
  · have h1 := congrArg List.length (h.2 rfl)
    have := putL_len xs n
    rw [List.length_append] at h1; omega
theorem PutI.go {xs : List Int} {n : Int} {k : Nat} {ys : List Int} (h : PutI xs n k true ys) (hk : k < xs.length) : PutI xs n (k + 1) true (ys ++ [nth xs k]) :=
  ⟨fun h => absurd h (by decide), fun _ => by rw [← h.2 rfl, drop_nth hk]; simp⟩
theorem PutI.lt {xs : List Int} {n : Int} {k : Nat} {ys : List Int} (h : PutI xs n k false ys) (hk : k < xs.length) (hn : nth xs k < n) : PutI xs n (k + 1) false (ys ++ [nth xs k]) := by
  obtain ⟨h1, h2⟩ := h.1 rfl
  refine ⟨fun _ => ⟨by rw [h1, take_nth hk], ?_⟩, fun h => absurd h (by decide)⟩
  rw [h2, drop_nth hk, putL, if_neg (by omega), if_neg (by omega), take_nth hk]; simp
theorem PutI.eq {xs : List Int} {n : Int} {k : Nat} {ys : List Int} (h : PutI xs n k false ys) (hk : k < xs.length) (hn : nth xs k = n) : PutI xs n (k + 1) true (ys ++ [nth xs k]) := by
  obtain ⟨h1, h2⟩ := h.1 rfl
  refine ⟨fun h => absurd h (by decide), fun _ => ?_⟩
  rw [h2, drop_nth hk, putL, if_neg (by omega), if_pos hn, h1]; simp
theorem PutI.gt {xs : List Int} {n : Int} {k : Nat} {ys : List Int} (h : PutI xs n k false ys) (hk : k < xs.length) (hn : n < nth xs k) : PutI xs n (k + 1) true ((ys ++ [n]) ++ [nth xs k]) := by
  obtain ⟨h1, h2⟩ := h.1 rfl
  refine ⟨fun h => absurd h (by decide), fun _ => ?_⟩
  rw [h2, drop_nth hk, putL, if_pos hn, h1]; simp
theorem PutI.end0 {xs : List Int} {n : Int} {ys : List Int} (h : PutI xs n xs.length false ys) : ys ++ [n] = putL xs n := by
  obtain ⟨h1, h2⟩ := h.1 rfl
  rw [h2, h1, List.drop_length, putL]
theorem PutI.end1 {xs : List Int} {n : Int} {ys : List Int} (h : PutI xs n xs.length true ys) : ys = putL xs n := by
  have := h.2 rfl
  rwa [List.drop_length, List.append_nil] at this
set_option maxHeartbeats 2000000 in
set_option maxRecDepth 100000 in
theorem l00PutX_c (v : Value) (xs : List Int) (n : Int) (w : World) (hv : RdI w v xs) (hxs : xs.length ≤ 1000000) :
    Calls Try.prog 103 #[v, .int .i64 n] w (MakesI w (putL xs n)) := by
  have hln := hv.len
  have hix := hv.ix
  have hm := hv.le
  go_enter Try.func103, Try.ntmps103
  go_wp2_with fail
  go_loopw [5, 6, 7] (fun o d i wr => ∃ (k : Nat) (b : Bool) (ys : List Int), k ≤ xs.length ∧ i = .int .i64 k ∧ d = .bool b ∧ Hid (PutI xs n k b ys) ∧ ys.length ≤ xs.length + 1 ∧ St w.heap.size w wr [row 2 o (iv ys)]) (fun _ _ i _ => xs.length - (intOf i).toNat)
  case atStart => exact ⟨0, false, [], by omega, rfl, rfl, ⟨fun _ => ⟨rfl, rfl⟩, fun h => absurd h (by decide)⟩, by simp, St.emp0⟩
  case round =>
    obtain ⟨k, b, ys, hk, rfl, rfl, hI, hy, hS⟩ := hrel
    by_cases hlt : k < xs.length
    · have hc := (hS.oldI hv).cell k hlt
      cases b
      · by_cases h1 : n ≤ nth xs k
        · by_cases h2 : n < nth xs k
          · have hJ := Lib.hid (hI.out.gt hlt h2)
            have hJl := hJ.out.len hlt
            go_wp2_with (first | (at_builtin; refine appI hS 0 rfl (by omega) rfl (.tmp 31) (.tmp 33) rfl rfl _ rfl ?_; intro v' w2 hS2; have hc2 := (hS2.oldI hv).cell k hlt) | (at_builtin; refine appI hS2 0 rfl (by simp; omega) rfl (.tmp 35) (.tmp 40) rfl rfl _ rfl ?_; intro v2 w3 hS3))
            go_roundw
            case rel => exact ⟨k + 1, true, _, by omega, by go_num, rfl, hJ.out, hJl, hS3⟩
            case measure => simp [intOf]; omega
          · have hJ := Lib.hid (hI.out.eq hlt (by omega))
            have hJl := hJ.out.len hlt
            go_wp2_with (at_builtin; refine appI hS 0 rfl (by omega) rfl (.tmp 35) (.tmp 40) rfl rfl _ rfl ?_; intro v2 w3 hS3)
            go_roundw
            case rel => exact ⟨k + 1, true, _, by omega, by go_num, rfl, hJ.out, hJl, hS3⟩
            case measure => simp [intOf]; omega
        · have hJ := Lib.hid (hI.out.lt hlt (by omega))
          have hJl := hJ.out.len hlt
          go_wp2_with (at_builtin; refine appI hS 0 rfl (by omega) rfl (.tmp 35) (.tmp 40) rfl rfl _ rfl ?_; intro v2 w3 hS3)
          go_roundw
          case rel => exact ⟨k + 1, false, _, by omega, by go_num, rfl, hJ.out, hJl, hS3⟩
          case measure => simp [intOf]; omega
      · have hJ := Lib.hid (hI.out.go hlt)
        have hJl := hJ.out.len hlt
        go_wp2_with (at_builtin; refine appI hS 0 rfl (by omega) rfl (.tmp 35) (.tmp 40) rfl rfl _ rfl ?_; intro v2 w3 hS3)
        go_roundw
        case rel => exact ⟨k + 1, true, _, by omega, by go_num, rfl, hJ.out, hJl, hS3⟩
        case measure => simp [intOf]; omega
    · obtain rfl : k = xs.length := by omega
      cases b
      · have hJ := Lib.hid hI.out.end0
        go_wp2_with (at_builtin; refine appI hS 0 rfl (by omega) rfl (.tmp 44) (.tmp 46) rfl rfl _ rfl ?_; intro v2 w3 hS3)
        go_ret
        exact ⟨_, rfl, by rw [← hJ.out]; exact hS3⟩
      · have hJ := Lib.hid hI.out.end1
        go_wp2_with fail
        go_ret
        exact ⟨_, rfl, by rw [← hJ.out]; exact hS⟩
end Go.Proofs.Ytejncephbafcdaa
end

section
/- Walks: the designs that the reference knows. -/
namespace Go.Proofs.Ytejncephbafcdaa
set_option linter.unusedSimpArgs false
set_option linter.unusedVariables false
open Go.RowKit
attribute [local go_sem ↓] Go.wp_at_zero Go.wp_at_succ

theorem St.empII0 {B : Nat} {w0 w : World} {L : List Ent} (h : St B w0 w L) : St B w0 (w.alloc (.cells #[] 52)) (L ++ [row 52 (.slice (some ⟨w.heap.size, 0, none⟩) 0 0) []]) := h.new 52 #[] (by simp)
theorem prA_len (n : Nat) : ∀ a, (prA n a).length ≤ a * n
  | 0 => Nat.zero_le _
  | a + 1 => by
    rw [prA, List.length_append, Nat.succ_mul]
    have := prA_len n a
    have : (prR n a).length ≤ n := by simp [prR]
    omega
theorem prA_rows (n : Nat) : ∀ a, ∀ xs ∈ prA n a, xs.length ≤ 1048576
  | 0, xs, h => by cases h
  | a + 1, xs, h => by
    rw [prA] at h
    rcases List.mem_append.1 h with h | h
    · exact prA_rows n a xs h
    · obtain ⟨t, _, rfl⟩ := List.mem_map.1 h
      simp
/-- a design that is known -/
def MakesKn (w0 : World) (cv : Value) (g K : Nat) (L : List Ent) (e : Ending) (w' : World) : Prop := ∃ (P : Nat) (A : List (List Int)) (v : Value) (us : List Value), (P, A) ∈ knL ∧ e = .returned (dv P v) ∧ us.length = A.length ∧ Src w0 w' cv g K (own2 v us A ++ L)
set_option maxHeartbeats 16000000 in
set_option maxRecDepth 100000 in
theorem l10Known_c (w0 w : World) (cv : Value) (bs : List UInt8) (g K : Nat) (L : List Ent) (hb : RdB w0 cv bs) (h : Src w0 w cv g K L) (hK : K < 100000000) :
    Calls Try.prog 54 #[.pointer (some ⟨g, 0, none⟩)] w (MakesKn w0 cv g (K + 10) L) := by
  have h1 := h.newboxF 41 #[.int .i64 0, .slice none 0 0]
  clear h
  obtain ⟨p0, s0, q0, q1, hS⟩ := h1
  have hF := (((((((hS.new 2 #[.int .i64 0, .int .i64 1, .int .i64 3] (by simp [maxLen])).new 2 #[.int .i64 1, .int .i64 2, .int .i64 4] (by simp [maxLen])).new 2 #[.int .i64 2, .int .i64 3, .int .i64 5] (by simp [maxLen])).new 2 #[.int .i64 3, .int .i64 4, .int .i64 6] (by simp [maxLen])).new 2 #[.int .i64 0, .int .i64 4, .int .i64 5] (by simp [maxLen])).new 2 #[.int .i64 1, .int .i64 5, .int .i64 6] (by simp [maxLen])).new 2 #[.int .i64 0, .int .i64 2, .int .i64 6] (by simp [maxLen]))
  simp only [World.size_alloc, List.size_toArray, List.length_cons, List.length_nil, Nat.zero_add, Nat.reduceAdd] at hF
  have hF := hF.new 52 #[.slice (some ⟨w.heap.size + 1, 0, none⟩) 3 3, .slice (some ⟨w.heap.size + 1 + 1, 0, none⟩) 3 3, .slice (some ⟨w.heap.size + 1 + 1 + 1, 0, none⟩) 3 3, .slice (some ⟨w.heap.size + 1 + 1 + 1 + 1, 0, none⟩) 3 3, .slice (some ⟨w.heap.size + 1 + 1 + 1 + 1 + 1, 0, none⟩) 3 3, .slice (some ⟨w.heap.size + 1 + 1 + 1 + 1 + 1 + 1, 0, none⟩) 3 3, .slice (some ⟨w.heap.size + 1 + 1 + 1 + 1 + 1 + 1 + 1, 0, none⟩) 3 3] (by simp [maxLen])
  simp only [World.size_alloc, List.size_toArray, List.length_cons, List.length_nil, Nat.zero_add, Nat.reduceAdd] at hF
  have hF2 : ∃ uf : List Value, uf.length = 7 ∧ St w0.heap.size w0 _ (box 101 g [cv, .int .i64 p0, .int .u64 s0] :: box 41 w.heap.size [.int .i64 0, .slice none 0 0] :: (own2 (.slice (some ⟨w.heap.size + 1 + 1 + 1 + 1 + 1 + 1 + 1 + 1, 0, none⟩) 7 7) uf fanL ++ L)) :=
    ⟨[.slice (some ⟨w.heap.size + 1, 0, none⟩) 3 3, .slice (some ⟨w.heap.size + 1 + 1, 0, none⟩) 3 3, .slice (some ⟨w.heap.size + 1 + 1 + 1, 0, none⟩) 3 3, .slice (some ⟨w.heap.size + 1 + 1 + 1 + 1, 0, none⟩) 3 3, .slice (some ⟨w.heap.size + 1 + 1 + 1 + 1 + 1, 0, none⟩) 3 3, .slice (some ⟨w.heap.size + 1 + 1 + 1 + 1 + 1 + 1, 0, none⟩) 3 3, .slice (some ⟨w.heap.size + 1 + 1 + 1 + 1 + 1 + 1 + 1, 0, none⟩) 3 3], rfl, hF.perm (by
      simp only [own2, rowsI, fanL, List.zipWith, iv, List.map]
      exact (by (try simp only [own2, List.cons_append, List.nil_append, List.append_nil]); classical exact List.perm_iff_count.2 (fun a => by simp only [List.cons_append, List.nil_append, List.append_nil, List.count_append, List.count_cons, List.count_nil] <;> omega)))⟩
  obtain ⟨uf, hlf, hF3⟩ := hF2
  have h2 : Src w0 _ cv g K (box 41 w.heap.size [.int .i64 0, .slice none 0 0] :: (own2 (.slice (some ⟨w.heap.size + 1 + 1 + 1 + 1 + 1 + 1 + 1 + 1, 0, none⟩) 7 7) uf fanL ++ L)) := ⟨p0, s0, q0, q1, hF3⟩
  have Hlf := Lib.hid hlf
  clear hF hS hF3 hlf q0 q1
  go_enter Try.func54, Try.ntmps54
  go_wp2_with fail
  refine (pick_c w0 _ cv bs g _ _ 4 hb h2 (by omega)).mono ?_
  rintro e w2 ⟨z, z0, z1, rfl, h3⟩
  clear h2
  by_cases e0 : z = 0
  · subst e0
    obtain ⟨pp, ss, p0, p1, hS⟩ := h3
    have HP0 := Lib.hid (And.intro p0 p1)
    have ro := rii2 (L2 := L) (hS.sub ((List.sublist_cons_self _ _).trans (List.sublist_cons_self _ _))) (by rw [Hlf.out]; rfl)
    have HSt := Lib.hid (l10Sort_c _ uf fanL w2 ro (by decide) (by decide))
    have hB := hS.sub (L' := box 101 g [cv, .int .i64 pp, .int .u64 ss] :: box 41 w.heap.size [.int .i64 0, .slice none 0 0] :: L) (((List.sublist_append_right _ _).cons_cons _).cons_cons _)
    clear hS ro p0 p1
    go_wp2_with fail
    refine HSt.out.mono ?_
    clear HSt
    rintro e w5 ⟨v5, us5, rfl, hl5, h5⟩
    obtain ⟨ua, uc, hv5⟩ := (h5.rd 0 (e := 52) (v := v5) (us := us5) rfl).sl.sh
    rw [hl5, srtL_len] at hv5
    generalize hLn : fanL.length = Ln at *
    subst hv5
    have hB5 := hB.call h5
    have c0 := hB5.bcell 1 rfl 0 rfl
    have c1 := hB5.bcell 1 rfl 1 rfl
    have f0 := hB5.bfree 1 rfl
    have h6 := (hB5.bstore 1 rfl 0 (.int .i64 7)).bstore 1 rfl 1 (.slice ua Ln uc)
    have d0 := h6.bcell 1 rfl 0 rfl
    have d1 := h6.bcell 1 rfl 1 rfl
    clear hB h5 hB5 hLn
    go_wp2_with fail
    refine bodyPost_ret (v := .agg #[.int .i64 7, .slice ua Ln uc]) (by simp [results, Try.results54, go_sem, d0, d1]) rfl ?_
    have h7 := h6.perm (L' := box 101 g [cv, .int .i64 pp, .int .u64 ss] :: ((own2 (.slice ua Ln uc) us5 (srtL fanL) ++ L) ++ [box 41 w.heap.size [.int .i64 7, .slice ua Ln uc]])) (by
      simp only [List.set_cons_succ, List.set_cons_zero, List.cons_append]
      exact (by (try simp only [own2, List.cons_append, List.nil_append, List.append_nil]); classical exact List.perm_iff_count.2 (fun a => by simp only [List.cons_append, List.nil_append, List.append_nil, List.count_append, List.count_cons, List.count_nil] <;> omega)))
    exact ⟨_, _, _, us5, by simp [knL], rfl, hl5, ⟨pp, ss, HP0.out.1, by have := HP0.out.2; omega, h7.sub ((List.sublist_append_left _ _).cons_cons _)⟩⟩
  · have f0 := eq_f e0
    by_cases e1 : z = 1
    · subst e1
      go_wp2_with fail
      refine (pick_c w0 _ cv bs g _ _ 4 hb h3.empII (by omega)).mono ?_
      rintro e w3 ⟨x, x0, x1, rfl, h4⟩
      obtain ⟨n, hn⟩ : ∃ n : Nat, 3 + x = n := ⟨(3 + x).toNat, by omega⟩
      have hn3 : 3 ≤ n := by omega
      have hn6 : n ≤ 6 := by omega
      obtain ⟨pp, ss, p0, p1, hS⟩ := h4
      have HP0 := Lib.hid (And.intro p0 p1)
      have hE0 := hS.sub (L' := box 101 g [cv, .int .i64 pp, .int .u64 ss] :: row 52 (.slice (some ⟨w2.heap.size, 0, none⟩) 0 0) [] :: box 41 w.heap.size [.int .i64 0, .slice none 0 0] :: L) ((((List.sublist_append_right _ _).cons_cons _).cons_cons _).cons_cons _)
      have hE := hE0.perm (L' := row 52 (.slice (some ⟨w2.heap.size, 0, none⟩) 0 0) [] :: (box 101 g [cv, .int .i64 pp, .int .u64 ss] :: box 41 w.heap.size [.int .i64 0, .slice none 0 0] :: L)) (by (try simp only [own2, List.cons_append, List.nil_append, List.append_nil]); classical exact List.perm_iff_count.2 (fun a => by simp only [List.cons_append, List.nil_append, List.append_nil, List.count_append, List.count_cons, List.count_nil] <;> omega))
      clear h3 hS hE0 p0 p1
      go_wp2_with fail
      try rw [hn]
      clear hn x0 x1
      go_loopw [4, 6, 7] (fun o i _ wr => ∃ (a : Nat) (uo : List Value), a ≤ n ∧ i = .int .i64 a ∧ Hid (uo.length = (prA n a).length) ∧ St w0.heap.size w0 wr (own2 o uo (prA n a) ++ (box 101 g [cv, .int .i64 pp, .int .u64 ss] :: box 41 w.heap.size [.int .i64 0, .slice none 0 0] :: L))) (fun _ i _ _ => n - (intOf i).toNat)
      case atStart => exact ⟨0, [], by omega, rfl, rfl, hE⟩
      case round =>
        clear hE
        obtain ⟨a, uo, ha, rfl, hlo, hS⟩ := hrel
        have hla := prA_len n a
        have han : a * n ≤ 36 := Nat.mul_le_mul (show a ≤ 6 by omega) hn6
        by_cases hlt : a < n
        · have hlti : (a : Int) < n := by omega
          have HA := Lib.hid (show prA n (a + 1) = prA n a ++ prR n a from rfl)
          have hS2 : St w0.heap.size w0 wr (own2 u4 uo (prA n a ++ (prR n a).take 0) ++ (box 101 g [cv, .int .i64 pp, .int .u64 ss] :: box 41 w.heap.size [.int .i64 0, .slice none 0 0] :: L)) := by rw [List.take_zero, List.append_nil]; exact hS
          have hlo2 : Hid (uo.length = (prA n a ++ (prR n a).take 0).length) := by rw [List.take_zero, List.append_nil]; exact hlo
          clear hS
          go_wp2_with fail
          go_loopw [4, 7] (fun o i wr => ∃ (t : Nat) (uo : List Value), t ≤ n - (a + 1) ∧ i = .int .i64 ((a : Int) + 1 + t) ∧ Hid (uo.length = (prA n a ++ (prR n a).take t).length) ∧ St w0.heap.size w0 wr (own2 o uo (prA n a ++ (prR n a).take t) ++ (box 101 g [cv, .int .i64 pp, .int .u64 ss] :: box 41 w.heap.size [.int .i64 0, .slice none 0 0] :: L))) (fun _ i _ => n - (intOf i).toNat)
          case atStart => exact ⟨0, uo, by omega, by simp, hlo2, hS2⟩
          case round =>
            clear hS2 hlo2 hlo
            obtain ⟨t, uo, ht, rfl, hlo, hS⟩ := hrel
            by_cases htn : t < n - (a + 1)
            · have hlt2 : (a : Int) + 1 + t < n := by omega
              have Ht := Lib.hid (prR_take (n := n) (a := a) htn)
              have hS1 := hS.new 2 #[.int .i64 a, .int .i64 ((a : Int) + 1 + t)] (by simp [maxLen])
              simp only [World.size_alloc, List.size_toArray, List.length_cons, List.length_nil, Nat.zero_add, Nat.reduceAdd] at hS1
              have hul := Lib.hid (show uo.length < 4294967296 by
                rw [hlo.out]; simp only [List.length_append, List.length_take]; omega)
              clear hS
              go_wp2_with (at_builtin; go_loud (refine appII hS1 0 rfl hul.out rfl _ _ rfl rfl _ rfl (by simp [Act.eval, World.size_alloc]) ?_; intro v8 w8 hS8))
              go_roundw
              case rel =>
                refine ⟨t + 1, uo ++ [.slice (some ⟨wr.heap.size, 0, none⟩) 2 2], by omega, by first | go_num | (congr 1; omega), ?_, ?_⟩
                · rw [Hid, Ht.out, ← List.append_assoc, List.length_append, List.length_append, hlo.out]; rfl
                · rw [Ht.out, ← List.append_assoc, own2, rowsI_app hlo.out]
                  have h9 : St w0.heap.size w0 w8 (row 52 v8 (uo ++ [.slice (some ⟨wr.heap.size, 0, none⟩) 2 2]) :: (rowsI uo (prA n a ++ (prR n a).take t) ++ (box 101 g [cv, .int .i64 pp, .int .u64 ss] :: box 41 w.heap.size [.int .i64 0, .slice none 0 0] :: L) ++ [row 2 (.slice (some ⟨wr.heap.size, 0, none⟩) 2 2) (iv [(a : Int), (a : Int) + 1 + (t : Nat)])])) := hS8
                  exact h9.perm (by (try simp only [own2, List.cons_append, List.nil_append, List.append_nil]); classical exact List.perm_iff_count.2 (fun a => by simp only [List.cons_append, List.nil_append, List.append_nil, List.count_append, List.count_cons, List.count_nil] <;> omega))
              case measure => simp [intOf]; omega
            · obtain rfl : t = n - (a + 1) := by omega
              rw [List.take_of_length_le (by simp [prR]), ← HA.out] at hS hlo
              have hge : ¬ ((a : Int) + 1 + ((n - (a + 1) : Nat) : Int)) < n := by omega
              go_wp2_with fail
              go_roundw
              case rel => exact ⟨a + 1, uo, by omega, by go_num, hlo, hS⟩
              case measure => simp [intOf]; omega
        · obtain rfl : a = n := by omega
          have ro : RII wr u4 uo (prA a a) := rii2 hS hlo.out
          have HSt := Lib.hid (l10Sort_c u4 uo (prA a a) wr ro (by omega) (prA_rows a a))
          have hB := (hS.sub (List.sublist_append_right _ _))
          have HM := Lib.hid (show (a, srtL (prA a a)) ∈ knL by
            rcases (show a = 3 ∨ a = 4 ∨ a = 5 ∨ a = 6 by omega) with rfl | rfl | rfl | rfl <;> simp [knL])
          clear hS ro hla han
          go_wp2_with fail
          refine HSt.out.mono ?_
          clear HSt
          rintro e w5 ⟨v5, us5, rfl, hl5, h5⟩
          obtain ⟨ua, uc, hv5⟩ := (h5.rd 0 (e := 52) (v := v5) (us := us5) rfl).sl.sh
          rw [hl5, srtL_len] at hv5
          generalize hLn : (prA a a).length = Ln at *
          subst hv5
          have hB5 := hB.call h5
          have c0 := hB5.bcell 1 rfl 0 rfl
          have c1 := hB5.bcell 1 rfl 1 rfl
          have f0 := hB5.bfree 1 rfl
          have h6 := (hB5.bstore 1 rfl 0 (.int .i64 a)).bstore 1 rfl 1 (.slice ua Ln uc)
          have d0 := h6.bcell 1 rfl 0 rfl
          have d1 := h6.bcell 1 rfl 1 rfl
          clear hB h5 hB5 hLn
          go_wp2_with fail
          refine bodyPost_ret (v := .agg #[.int .i64 a, .slice ua Ln uc]) (by simp [results, Try.results54, go_sem, d0, d1]) rfl ?_
          have h7 := h6.perm (L' := box 101 g [cv, .int .i64 pp, .int .u64 ss] :: ((own2 (.slice ua Ln uc) us5 (srtL (prA a a)) ++ L) ++ [box 41 w.heap.size [.int .i64 a, .slice ua Ln uc]])) (by
            simp only [List.set_cons_succ, List.set_cons_zero, List.cons_append]
            exact (by (try simp only [own2, List.cons_append, List.nil_append, List.append_nil]); classical exact List.perm_iff_count.2 (fun a => by simp only [List.cons_append, List.nil_append, List.append_nil, List.count_append, List.count_cons, List.count_nil] <;> omega)))
          exact ⟨_, _, _, us5, HM.out, rfl, hl5, ⟨pp, ss, HP0.out.1, by have := HP0.out.2; omega, h7.sub ((List.sublist_append_left _ _).cons_cons _)⟩⟩
    · have f1 := eq_f e1
      by_cases e2 : z = 2
      · subst e2
        obtain ⟨pp, ss, p0, p1, hS⟩ := h3
        have HP0 := Lib.hid (And.intro p0 p1)
        have hS := hS.sub (L' := box 101 g [cv, .int .i64 pp, .int .u64 ss] :: box 41 w.heap.size [.int .i64 0, .slice none 0 0] :: L) (((List.sublist_append_right _ _).cons_cons _).cons_cons _)
        have h1 := (); have h2 := ()
        clear p0 p1
        have hE := (hS.empII0).perm (L' := row 52 (.slice (some ⟨w2.heap.size, 0, none⟩) 0 0) [] :: (box 101 g [cv, .int .i64 pp, .int .u64 ss] :: box 41 w.heap.size [.int .i64 0, .slice none 0 0] :: L)) (by (try simp only [own2, List.cons_append, List.nil_append, List.append_nil]); classical exact List.perm_iff_count.2 (fun a => by simp only [List.cons_append, List.nil_append, List.append_nil, List.count_append, List.count_cons, List.count_nil] <;> omega))
        clear h1 h2 hS
        go_wp2_with fail
        go_loopw [8, 9, 10, 12] (fun o i _ _ wr => ∃ (k : Nat) (uo : List Value), k ≤ 11 ∧ i = .int .i64 k ∧ Hid (uo.length = k) ∧ St w0.heap.size w0 wr (own2 o uo (trL 11 S5 k) ++ (box 101 g [cv, .int .i64 pp, .int .u64 ss] :: box 41 w.heap.size [.int .i64 0, .slice none 0 0] :: L))) (fun _ i _ _ _ => 11 - (intOf i).toNat)
        case atStart => exact ⟨0, [], by omega, rfl, rfl, hE⟩
        case round =>
          clear hE
          obtain ⟨k, uo, hk, rfl, hlo, hS⟩ := hrel
          obtain ⟨wo, rfl⟩ : ∃ wo : World, wo = wr := ⟨_, rfl⟩
          have hlT : (trL 11 S5 k).length = k := by simp [trL]
          by_cases hlt : k < 11
          · have hlti : (k : Int) < 11 := by omega
            have hS1 := (hS.new 2 #[] (by simp)).new 2 #[.int .i64 1, .int .i64 3, .int .i64 4, .int .i64 5, .int .i64 9] (by simp [maxLen])
            simp only [World.size_alloc, List.size_toArray, List.length_cons, List.length_nil, Nat.zero_add, Nat.reduceAdd] at hS1
            have hS2 : St w0.heap.size w0 _ (row 2 (.slice (some ⟨wo.heap.size + 1, 0, none⟩) 5 5) (iv S5) :: row 2 (.slice (some ⟨wo.heap.size, 0, none⟩) 0 0) (iv (trS 11 k S5 0)) :: (own2 u8 uo (trL 11 S5 k) ++ (box 101 g [cv, .int .i64 pp, .int .u64 ss] :: box 41 w.heap.size [.int .i64 0, .slice none 0 0] :: L))) := hS1.perm (L' := row 2 (.slice (some ⟨wo.heap.size + 1, 0, none⟩) 5 5) [.int .i64 1, .int .i64 3, .int .i64 4, .int .i64 5, .int .i64 9] :: row 2 (.slice (some ⟨wo.heap.size, 0, none⟩) 0 0) [] :: (own2 u8 uo (trL 11 S5 k) ++ (box 101 g [cv, .int .i64 pp, .int .u64 ss] :: box 41 w.heap.size [.int .i64 0, .slice none 0 0] :: L))) (by (try simp only [own2, List.cons_append, List.nil_append, List.append_nil]); classical exact List.perm_iff_count.2 (fun a => by simp only [List.cons_append, List.nil_append, List.append_nil, List.count_append, List.count_cons, List.count_nil] <;> omega))
            have hl5 := (hS2.rdI 0 rfl).len
            have hi5 := (hS2.rdI 0 rfl).ix
            have hn5 : (S5).length = 5 := rfl
            rw [hn5] at hl5 hi5
            have HT := Lib.hid (trL_succ 11 S5 k)
            have Hlt := Lib.hid hlT
            clear hS1 hS hlT
            go_wp2_with fail
            go_loopw [10, 12, 71] (fun q _ i wx => ∃ j : Nat, j ≤ 5 ∧ i = .int .i64 j ∧ St w0.heap.size w0 wx (row 2 (.slice (some ⟨wo.heap.size + 1, 0, none⟩) 5 5) (iv S5) :: row 2 q (iv (trS 11 k S5 j)) :: (own2 u8 uo (trL 11 S5 k) ++ (box 101 g [cv, .int .i64 pp, .int .u64 ss] :: box 41 w.heap.size [.int .i64 0, .slice none 0 0] :: L)))) (fun _ _ i _ => 5 - (intOf i).toNat)
            case atStart => exact ⟨0, by omega, rfl, hS2⟩
            case round =>
              clear hS2
              obtain ⟨j, hj, rfl, hS⟩ := hrel
              by_cases hjt : j < 5
              · have cj := (hS.rdI 0 rfl).cell j hjt
                obtain ⟨x, hx, hx0, hx9⟩ : ∃ x : Int, nth S5 j = x ∧ 0 ≤ x ∧ x ≤ 9 := ⟨_, rfl, by
                  have : ∀ j, j < 5 → 0 ≤ nth S5 j := by decide
                  exact this j hjt, by
                  have : ∀ j, j < 5 → nth S5 j ≤ 9 := by decide
                  exact this j hjt⟩
                have hstep : Hid (trS 11 k S5 (j + 1) = putL (trS 11 k S5 j) ((x + k) % 11)) := by rw [Hid, trS, hx]; rfl
                rw [hx] at cj
                have hrem : (x + (k : Int)).tmod 11 = (x + k) % 11 := Int.tmod_eq_emod_of_nonneg (by omega)
                have hlt9 := trS_len 11 k S5 j
                have HP := fun n W h => Lib.hid (l00PutX_c u10 (trS 11 k S5 j) n W h (by omega))
                have hrq := hS.rdI 1 rfl
                clear hx
                go_wp2_with fail
                try rw [hrem]
                refine (HP _ _ hrq).out.mono ?_
                rintro e w5 ⟨v5, rfl, h5⟩
                have hS6 := (hS.call h5).sub (L' := row 2 (.slice (some ⟨wo.heap.size + 1, 0, none⟩) 5 5) (iv S5) :: ((own2 u8 uo (trL 11 S5 k) ++ (box 101 g [cv, .int .i64 pp, .int .u64 ss] :: box 41 w.heap.size [.int .i64 0, .slice none 0 0] :: L)) ++ [row 2 v5 (iv (putL (trS 11 k S5 j) ((x + k) % 11)))])) ((List.sublist_cons_self _ _).cons_cons _)
                have hS7 := hS6.perm (L' := row 2 (.slice (some ⟨wo.heap.size + 1, 0, none⟩) 5 5) (iv S5) :: row 2 v5 (iv (putL (trS 11 k S5 j) ((x + k) % 11))) :: (own2 u8 uo (trL 11 S5 k) ++ (box 101 g [cv, .int .i64 pp, .int .u64 ss] :: box 41 w.heap.size [.int .i64 0, .slice none 0 0] :: L))) (by (try simp only [own2, List.cons_append, List.nil_append, List.append_nil]); classical exact List.perm_iff_count.2 (fun a => by simp only [List.cons_append, List.nil_append, List.append_nil, List.count_append, List.count_cons, List.count_nil] <;> omega))
                clear hS hS6 h5 hrq HP
                go_wp2_with fail
                go_roundw
                case rel => exact ⟨j + 1, by omega, by go_num, by rw [hstep.out]; exact hS7⟩
                case measure => simp [intOf]; omega
              · obtain rfl : j = 5 := by omega
                have hl9 := trS_len 11 k S5 5
                obtain ⟨la, lc, hle⟩ := (hS.rdI 1 rfl).sl.sh
                rw [iv_len] at hle
                subst hle
                have hEt : trB 11 S5 k = trS 11 k S5 5 := rfl
                rw [← hEt] at hS
                have hul := Lib.hid (show uo.length < 4294967296 by rw [hlo.out]; omega)
                rw [show trS 11 k S5 5 = trB 11 S5 k from rfl]
                go_wp2_with (at_builtin; refine appII hS 2 rfl hul.out rfl _ _ rfl rfl _ rfl rfl ?_; intro v8 w8 hS8)
                simp only [List.set_cons_succ] at hS8
                go_roundw
                case rel =>
                  refine ⟨k + 1, uo ++ [.slice la (trB 11 S5 k).length lc], by omega, by go_num, by simp [Hid, hlo.out], ?_⟩
                  rw [HT.out, own2, rowsI_app (by rw [hlo.out, Hlt.out])]
                  have h9 := hS8.sub (L' := row 2 (.slice la (trB 11 S5 k).length lc) (iv (trB 11 S5 k)) :: row 52 v8 (uo ++ [.slice la (trB 11 S5 k).length lc]) :: (rowsI uo (trL 11 S5 k) ++ (box 101 g [cv, .int .i64 pp, .int .u64 ss] :: box 41 w.heap.size [.int .i64 0, .slice none 0 0] :: L))) (List.sublist_cons_self _ _)
                  exact h9.perm (by (try simp only [own2, List.cons_append, List.nil_append, List.append_nil]); classical exact List.perm_iff_count.2 (fun a => by simp only [List.cons_append, List.nil_append, List.append_nil, List.count_append, List.count_cons, List.count_nil] <;> omega))
                case measure => simp [intOf]; omega
          · obtain rfl : k = 11 := by omega
            have ro : RII wo u8 uo (trL 11 S5 11) := rii2 hS (by rw [hlo.out, hlT])
            have HSt := Lib.hid (l10Sort_c u8 uo (trL 11 S5 11) wo ro (by rw [hlT]; omega) (fun xs hx => by
              obtain ⟨j, _, rfl⟩ := List.mem_map.1 hx
              have := trS_len 11 j S5 5; exact Nat.le_trans this (by omega)))
            have hB := (hS.sub (List.sublist_append_right _ _))
            clear hS ro hlT
            go_wp2_with fail
            refine HSt.out.mono ?_
            clear HSt
            rintro e w5 ⟨v5, us5, rfl, hl5, h5⟩
            obtain ⟨ua, uc, hv5⟩ := (h5.rd 0 (e := 52) (v := v5) (us := us5) rfl).sl.sh
            rw [hl5, srtL_len] at hv5
            generalize hLn : (trL 11 S5 11).length = Ln at *
            subst hv5
            have hB5 := hB.call h5
            have c0 := hB5.bcell 1 rfl 0 rfl
            have c1 := hB5.bcell 1 rfl 1 rfl
            have f0 := hB5.bfree 1 rfl
            have h6 := (hB5.bstore 1 rfl 0 (.int .i64 11)).bstore 1 rfl 1 (.slice ua Ln uc)
            have d0 := h6.bcell 1 rfl 0 rfl
            have d1 := h6.bcell 1 rfl 1 rfl
            clear hB h5 hB5 hLn
            go_wp2_with fail
            refine bodyPost_ret (v := .agg #[.int .i64 11, .slice ua Ln uc]) (by simp [results, Try.results54, go_sem, d0, d1]) rfl ?_
            have h7 := h6.perm (L' := box 101 g [cv, .int .i64 pp, .int .u64 ss] :: ((own2 (.slice ua Ln uc) us5 (srtL (trL 11 S5 11)) ++ L) ++ [box 41 w.heap.size [.int .i64 11, .slice ua Ln uc]])) (by
              simp only [List.set_cons_succ, List.set_cons_zero, List.cons_append]
              exact (by (try simp only [own2, List.cons_append, List.nil_append, List.append_nil]); classical exact List.perm_iff_count.2 (fun a => by simp only [List.cons_append, List.nil_append, List.append_nil, List.count_append, List.count_cons, List.count_nil] <;> omega)))
            exact ⟨_, _, _, us5, by simp [knL], rfl, hl5, ⟨pp, ss, HP0.out.1, by have := HP0.out.2; omega, h7.sub ((List.sublist_append_left _ _).cons_cons _)⟩⟩
      · have f2 := eq_f e2
        obtain ⟨pp, ss, p0, p1, hS⟩ := h3
        have HP0 := Lib.hid (And.intro p0 p1)
        have hS := hS.sub (L' := box 101 g [cv, .int .i64 pp, .int .u64 ss] :: box 41 w.heap.size [.int .i64 0, .slice none 0 0] :: L) (((List.sublist_append_right _ _).cons_cons _).cons_cons _)
        have h1 := (); have h2 := ()
        clear p0 p1
        have hE := (hS.empII0).perm (L' := row 52 (.slice (some ⟨w2.heap.size, 0, none⟩) 0 0) [] :: (box 101 g [cv, .int .i64 pp, .int .u64 ss] :: box 41 w.heap.size [.int .i64 0, .slice none 0 0] :: L)) (by (try simp only [own2, List.cons_append, List.nil_append, List.append_nil]); classical exact List.perm_iff_count.2 (fun a => by simp only [List.cons_append, List.nil_append, List.append_nil, List.count_append, List.count_cons, List.count_nil] <;> omega))
        clear h1 h2 hS
        go_wp2_with fail
        go_loopw [13, 14, 15, 17] (fun o i _ _ wr => ∃ (k : Nat) (uo : List Value), k ≤ 13 ∧ i = .int .i64 k ∧ Hid (uo.length = k) ∧ St w0.heap.size w0 wr (own2 o uo (trL 13 S4 k) ++ (box 101 g [cv, .int .i64 pp, .int .u64 ss] :: box 41 w.heap.size [.int .i64 0, .slice none 0 0] :: L))) (fun _ i _ _ _ => 13 - (intOf i).toNat)
        case atStart => exact ⟨0, [], by omega, rfl, rfl, hE⟩
        case round =>
          clear hE
          obtain ⟨k, uo, hk, rfl, hlo, hS⟩ := hrel
          obtain ⟨wo, rfl⟩ : ∃ wo : World, wo = wr := ⟨_, rfl⟩
          have hlT : (trL 13 S4 k).length = k := by simp [trL]
          by_cases hlt : k < 13
          · have hlti : (k : Int) < 13 := by omega
            have hS1 := (hS.new 2 #[] (by simp)).new 2 #[.int .i64 0, .int .i64 1, .int .i64 3, .int .i64 9] (by simp [maxLen])
            simp only [World.size_alloc, List.size_toArray, List.length_cons, List.length_nil, Nat.zero_add, Nat.reduceAdd] at hS1
            have hS2 : St w0.heap.size w0 _ (row 2 (.slice (some ⟨wo.heap.size + 1, 0, none⟩) 4 4) (iv S4) :: row 2 (.slice (some ⟨wo.heap.size, 0, none⟩) 0 0) (iv (trS 13 k S4 0)) :: (own2 u13 uo (trL 13 S4 k) ++ (box 101 g [cv, .int .i64 pp, .int .u64 ss] :: box 41 w.heap.size [.int .i64 0, .slice none 0 0] :: L))) := hS1.perm (L' := row 2 (.slice (some ⟨wo.heap.size + 1, 0, none⟩) 4 4) [.int .i64 0, .int .i64 1, .int .i64 3, .int .i64 9] :: row 2 (.slice (some ⟨wo.heap.size, 0, none⟩) 0 0) [] :: (own2 u13 uo (trL 13 S4 k) ++ (box 101 g [cv, .int .i64 pp, .int .u64 ss] :: box 41 w.heap.size [.int .i64 0, .slice none 0 0] :: L))) (by (try simp only [own2, List.cons_append, List.nil_append, List.append_nil]); classical exact List.perm_iff_count.2 (fun a => by simp only [List.cons_append, List.nil_append, List.append_nil, List.count_append, List.count_cons, List.count_nil] <;> omega))
            have hl5 := (hS2.rdI 0 rfl).len
            have hi5 := (hS2.rdI 0 rfl).ix
            have hn5 : (S4).length = 4 := rfl
            rw [hn5] at hl5 hi5
            have HT := Lib.hid (trL_succ 13 S4 k)
            have Hlt := Lib.hid hlT
            clear hS1 hS hlT
            go_wp2_with fail
            go_loopw [15, 17, 97] (fun q _ i wx => ∃ j : Nat, j ≤ 4 ∧ i = .int .i64 j ∧ St w0.heap.size w0 wx (row 2 (.slice (some ⟨wo.heap.size + 1, 0, none⟩) 4 4) (iv S4) :: row 2 q (iv (trS 13 k S4 j)) :: (own2 u13 uo (trL 13 S4 k) ++ (box 101 g [cv, .int .i64 pp, .int .u64 ss] :: box 41 w.heap.size [.int .i64 0, .slice none 0 0] :: L)))) (fun _ _ i _ => 4 - (intOf i).toNat)
            case atStart => exact ⟨0, by omega, rfl, hS2⟩
            case round =>
              clear hS2
              obtain ⟨j, hj, rfl, hS⟩ := hrel
              by_cases hjt : j < 4
              · have cj := (hS.rdI 0 rfl).cell j hjt
                obtain ⟨x, hx, hx0, hx9⟩ : ∃ x : Int, nth S4 j = x ∧ 0 ≤ x ∧ x ≤ 9 := ⟨_, rfl, by
                  have : ∀ j, j < 4 → 0 ≤ nth S4 j := by decide
                  exact this j hjt, by
                  have : ∀ j, j < 4 → nth S4 j ≤ 9 := by decide
                  exact this j hjt⟩
                have hstep : Hid (trS 13 k S4 (j + 1) = putL (trS 13 k S4 j) ((x + k) % 13)) := by rw [Hid, trS, hx]; rfl
                rw [hx] at cj
                have hrem : (x + (k : Int)).tmod 13 = (x + k) % 13 := Int.tmod_eq_emod_of_nonneg (by omega)
                have hlt9 := trS_len 13 k S4 j
                have HP := fun n W h => Lib.hid (l00PutX_c u15 (trS 13 k S4 j) n W h (by omega))
                have hrq := hS.rdI 1 rfl
                clear hx
                go_wp2_with fail
                try rw [hrem]
                refine (HP _ _ hrq).out.mono ?_
                rintro e w5 ⟨v5, rfl, h5⟩
                have hS6 := (hS.call h5).sub (L' := row 2 (.slice (some ⟨wo.heap.size + 1, 0, none⟩) 4 4) (iv S4) :: ((own2 u13 uo (trL 13 S4 k) ++ (box 101 g [cv, .int .i64 pp, .int .u64 ss] :: box 41 w.heap.size [.int .i64 0, .slice none 0 0] :: L)) ++ [row 2 v5 (iv (putL (trS 13 k S4 j) ((x + k) % 13)))])) ((List.sublist_cons_self _ _).cons_cons _)
                have hS7 := hS6.perm (L' := row 2 (.slice (some ⟨wo.heap.size + 1, 0, none⟩) 4 4) (iv S4) :: row 2 v5 (iv (putL (trS 13 k S4 j) ((x + k) % 13))) :: (own2 u13 uo (trL 13 S4 k) ++ (box 101 g [cv, .int .i64 pp, .int .u64 ss] :: box 41 w.heap.size [.int .i64 0, .slice none 0 0] :: L))) (by (try simp only [own2, List.cons_append, List.nil_append, List.append_nil]); classical exact List.perm_iff_count.2 (fun a => by simp only [List.cons_append, List.nil_append, List.append_nil, List.count_append, List.count_cons, List.count_nil] <;> omega))
                clear hS hS6 h5 hrq HP
                go_wp2_with fail
                go_roundw
                case rel => exact ⟨j + 1, by omega, by go_num, by rw [hstep.out]; exact hS7⟩
                case measure => simp [intOf]; omega
              · obtain rfl : j = 4 := by omega
                have hl9 := trS_len 13 k S4 4
                obtain ⟨la, lc, hle⟩ := (hS.rdI 1 rfl).sl.sh
                rw [iv_len] at hle
                subst hle
                have hEt : trB 13 S4 k = trS 13 k S4 4 := rfl
                rw [← hEt] at hS
                have hul := Lib.hid (show uo.length < 4294967296 by rw [hlo.out]; omega)
                rw [show trS 13 k S4 4 = trB 13 S4 k from rfl]
                go_wp2_with (at_builtin; refine appII hS 2 rfl hul.out rfl _ _ rfl rfl _ rfl rfl ?_; intro v8 w8 hS8)
                simp only [List.set_cons_succ] at hS8
                go_roundw
                case rel =>
                  refine ⟨k + 1, uo ++ [.slice la (trB 13 S4 k).length lc], by omega, by go_num, by simp [Hid, hlo.out], ?_⟩
                  rw [HT.out, own2, rowsI_app (by rw [hlo.out, Hlt.out])]
                  have h9 := hS8.sub (L' := row 2 (.slice la (trB 13 S4 k).length lc) (iv (trB 13 S4 k)) :: row 52 v8 (uo ++ [.slice la (trB 13 S4 k).length lc]) :: (rowsI uo (trL 13 S4 k) ++ (box 101 g [cv, .int .i64 pp, .int .u64 ss] :: box 41 w.heap.size [.int .i64 0, .slice none 0 0] :: L))) (List.sublist_cons_self _ _)
                  exact h9.perm (by (try simp only [own2, List.cons_append, List.nil_append, List.append_nil]); classical exact List.perm_iff_count.2 (fun a => by simp only [List.cons_append, List.nil_append, List.append_nil, List.count_append, List.count_cons, List.count_nil] <;> omega))
                case measure => simp [intOf]; omega
          · obtain rfl : k = 13 := by omega
            have ro : RII wo u13 uo (trL 13 S4 13) := rii2 hS (by rw [hlo.out, hlT])
            have HSt := Lib.hid (l10Sort_c u13 uo (trL 13 S4 13) wo ro (by rw [hlT]; omega) (fun xs hx => by
              obtain ⟨j, _, rfl⟩ := List.mem_map.1 hx
              have := trS_len 13 j S4 4; exact Nat.le_trans this (by omega)))
            have hB := (hS.sub (List.sublist_append_right _ _))
            clear hS ro hlT
            go_wp2_with fail
            refine HSt.out.mono ?_
            clear HSt
            rintro e w5 ⟨v5, us5, rfl, hl5, h5⟩
            obtain ⟨ua, uc, hv5⟩ := (h5.rd 0 (e := 52) (v := v5) (us := us5) rfl).sl.sh
            rw [hl5, srtL_len] at hv5
            generalize hLn : (trL 13 S4 13).length = Ln at *
            subst hv5
            have hB5 := hB.call h5
            have c0 := hB5.bcell 1 rfl 0 rfl
            have c1 := hB5.bcell 1 rfl 1 rfl
            have f0 := hB5.bfree 1 rfl
            have h6 := (hB5.bstore 1 rfl 0 (.int .i64 13)).bstore 1 rfl 1 (.slice ua Ln uc)
            have d0 := h6.bcell 1 rfl 0 rfl
            have d1 := h6.bcell 1 rfl 1 rfl
            clear hB h5 hB5 hLn
            go_wp2_with fail
            refine bodyPost_ret (v := .agg #[.int .i64 13, .slice ua Ln uc]) (by simp [results, Try.results54, go_sem, d0, d1]) rfl ?_
            have h7 := h6.perm (L' := box 101 g [cv, .int .i64 pp, .int .u64 ss] :: ((own2 (.slice ua Ln uc) us5 (srtL (trL 13 S4 13)) ++ L) ++ [box 41 w.heap.size [.int .i64 13, .slice ua Ln uc]])) (by
              simp only [List.set_cons_succ, List.set_cons_zero, List.cons_append]
              exact (by (try simp only [own2, List.cons_append, List.nil_append, List.append_nil]); classical exact List.perm_iff_count.2 (fun a => by simp only [List.cons_append, List.nil_append, List.append_nil, List.count_append, List.count_cons, List.count_nil] <;> omega)))
            exact ⟨_, _, _, us5, by simp [knL], rfl, hl5, ⟨pp, ss, HP0.out.1, by have := HP0.out.2; omega, h7.sub ((List.sublist_append_left _ _).cons_cons _)⟩⟩
end Go.Proofs.Ytejncephbafcdaa
end

section
/- Plain: complements, derived and residual designs of the known designs. -/
namespace Go.Proofs.Ytejncephbafcdaa
set_option linter.unusedSimpArgs false
set_option linter.unusedVariables false

/-- what holds of the derived design or the residual one, on the set S of points -/
def chkR (A : List (List Int)) (k : Nat) (S : List Int) (q : List Int) : Bool :=
  decide (0 < S.length) && decide (S.length ≤ 1000) && ((List.range A.length).all fun j => decide (j = k) || decide (0 < (rsB (xat A j) S).length)) &&
  dOk S.length (srtL (resR A k S A.length)) && prmB S.length (srtL (resR A k S A.length)) && decide (prmV S.length (srtL (resR A k S A.length)) = q)
def chkC1 (P : Nat) (A : List (List Int)) : Bool := dOk P A && prmB P A && A.all (fun b => b.length != P) && decide (0 < A.length)
def chkC2 (P : Nat) (A X : List (List Int)) : Bool := dOk P X && X.all (fun b => b.length != P) && decide (srtL (cplL P X) = A)
/-- the numbers of blocks on two points of a complement -/
def lamC (A : List (List Int)) (q : List Int) : Int := A.length - 2 * nth q 2 + nth q 4
def chkC3 (P : Nat) (A X : List (List Int)) (q : List Int) : Bool :=
  !(decide (1 < (P : Int) - nth q 3) && decide (0 < lamC A q)) || (prmB P X && decide (prmV P X = [(P : Int), (A.length : Int), A.length - nth q 2, P - nth q 3, lamC A q]))
def chkC4 (P : Nat) (A : List (List Int)) (q : List Int) : Bool :=
  decide (A.length ≠ P) || decide (nth q 4 < 2) || decide (nth q 3 - nth q 4 < 2) ||
  ((List.range A.length).all fun k => chkR A k (xat A k) [nth q 3, P - 1, nth q 3 - 1, nth q 4, nth q 4 - 1] && chkR A k (cplB P (xat A k)) [P - nth q 3, P - 1, nth q 3, nth q 3 - nth q 4, nth q 4])
def chkC (d : Nat × List (List Int)) : Bool :=
  chkC1 d.1 d.2 && chkC2 d.1 d.2 (srtL (cplL d.1 d.2)) && chkC3 d.1 d.2 (srtL (cplL d.1 d.2)) (prmV d.1 d.2) && chkC4 d.1 d.2 (prmV d.1 d.2)
theorem kn_chk : ∀ d ∈ knL, chkC d = true := by decide +kernel
/-- the numbers of a known design -/
def chkN (d : Nat × List (List Int)) : Bool := ((prmV d.1 d.2).all fun x => decide (0 ≤ x) && decide (x ≤ 100)) && decide (nth (prmV d.1 d.2) 0 = d.1) && decide (nth (prmV d.1 d.2) 1 = d.2.length)
theorem kn_num : ∀ d ∈ knL, chkN d = true := by decide +kernel
end Go.Proofs.Ytejncephbafcdaa
end

section
/- Walks: v8Long, v8At of the laws. -/
namespace Go.Proofs.Ytejncephbafcdaa
set_option linter.unusedSimpArgs false
set_option linter.unusedVariables false
open Go.RowKit

set_option maxHeartbeats 2000000 in
theorem v8Long_c (va vb : Value) (xs bs : List UInt8) (w : World) (ha : RdB w va xs) (hb : RdB w vb bs) :
    Calls Try.prog 16 #[va, vb] w fun e w' => e = .returned (.bool (decide (1048576 < (xs.length : Int)) || decide (1048576 < (bs.length : Int)))) ∧ w = w' := by
  have hla := ha.len
  have hlb := hb.len
  have hea := ha.le
  have heb := hb.le
  by_cases h1 : 1048576 < (xs.length : Int)
  · rw [decide_eq_true h1, Bool.true_or]
    go_enter Try.func16, Try.ntmps16
    go_wp2_with fail
    go_ret
    exact ⟨rfl, rfl⟩
  · rw [decide_eq_false h1, Bool.false_or]
    by_cases h2 : 1048576 < (bs.length : Int)
    · rw [decide_eq_true h2]
      go_enter Try.func16, Try.ntmps16
      go_wp2_with fail
      go_ret
      exact ⟨by simp [h1, h2], rfl⟩
    · rw [decide_eq_false h2]
      go_enter Try.func16, Try.ntmps16
      go_wp2_with fail
      go_ret
      exact ⟨by simp [h1, h2], rfl⟩
end Go.Proofs.Ytejncephbafcdaa
end

section
/- Known designs: what holds of them, and their draw. -/
namespace Go.Proofs.Ytejncephbafcdaa
set_option linter.unusedSimpArgs false
set_option linter.unusedVariables false
open Go.RowKit
attribute [local go_sem ↓] Go.wp_at_zero Go.wp_at_succ

/-! ### what holds of a known design -/
/-! ### the draw -/
def MakesKb (w : World) (e : Ending) (w' : World) : Prop := ∃ (P : Nat) (A : List (List Int)) (v : Value) (us : List Value), (P, A) ∈ knL ∧ e = .returned (dv P v) ∧ RII w' v us A ∧ St w.heap.size w w' []
set_option maxHeartbeats 2000000 in
theorem V8Balanced_c (w : World) (cv : Value) (bs : List UInt8) (hb : RdB w cv bs) : Calls Try.prog 17 #[cv] w (MakesKb w) := by
  have hS0 := (St.refl w).newboxF 41 #[.int .i64 0, .slice none 0 0]
  go_enter Try.func17, Try.ntmps17
  go_wp2_with fail
  refine (l00FromS w _ cv bs _ hb hS0).mono ?_
  rintro e w1 ⟨g, rfl, h1⟩
  go_wp2_with fail
  refine (l10Known_c w _ cv bs g _ _ hb h1 (by omega)).mono ?_
  rintro e w2 ⟨P, A, v, us, hm, rfl, hl, h2⟩
  have Hm := Lib.hid hm
  have h3 := h2.perm (L' := box 41 w.heap.size [.int .i64 0, .slice none 0 0] :: own2 v us A) (by (try simp only [own2, List.cons_append, List.nil_append, List.append_nil]); classical exact List.perm_iff_count.2 (fun a => by simp only [List.cons_append, List.nil_append, List.append_nil, List.count_append, List.count_cons, List.count_nil] <;> omega))
  have b0 := h3.box 0 (e := 41) rfl 0 rfl
  have b1 := h3.box 0 (e := 41) rfl 1 rfl
  have f0 := h3.bfree 0 (e := 41) rfl
  obtain ⟨ra, rc, hre⟩ := (h3.rd 1 (e := 52) (v := v) (us := us) rfl).sl.sh
  rw [hl] at hre
  subst hre
  have h7 := (h3.bstore 0 (e := 41) rfl 0 (.int .i64 P)).bstore 0 (e := 41) rfl 1 (.slice ra A.length rc)
  simp only [List.set_cons_zero, List.set_cons_succ] at h7
  have d0 := h7.box 0 (e := 41) rfl 0 rfl
  have d1 := h7.box 0 (e := 41) rfl 1 rfl
  have hR7 := h7.riiS (v := .slice ra A.length rc) (us := us) (A := A) (List.sublist_cons_self _ _) hl
  clear h1 h2 h3 hm
  unfold dv
  go_wp2_with fail
  refine bodyPost_ret (v := .agg #[.int .i64 P, .slice ra A.length rc]) (by simp [results, Try.results17, go_sem, d0, d1]) rfl ?_
  exact ⟨P, A, _, us, Hm.out, rfl, hR7, h7.st.sub (List.nil_sublist _)⟩

/-- parameters in a box -/
def BoxP (w : World) (g : Nat) (a b c d e : Int) : Prop := w.cell? ⟨g, 0, none⟩ = some (.int .i64 a) ∧ w.cell? ⟨g, 1, none⟩ = some (.int .i64 b) ∧ w.cell? ⟨g, 2, none⟩ = some (.int .i64 c) ∧ w.cell? ⟨g, 3, none⟩ = some (.int .i64 d) ∧ w.cell? ⟨g, 4, none⟩ = some (.int .i64 e)
theorem BoxP.keep {w0 w : World} {g : Nat} {a b c d e : Int} (h : BoxP w0 g a b c d e) (hb : Below w0.heap.size w0 w) : BoxP w g a b c d e := by
  obtain ⟨h1, h2, h3, h4, h5⟩ := h
  have hg : g < w0.heap.size := by
    rcases Nat.lt_or_ge g w0.heap.size with h | h
    · exact h
    · rw [World.cell?, Array.getElem?_eq_none h] at h1; cases h1
  exact ⟨by rw [hb.cell hg]; exact h1, by rw [hb.cell hg]; exact h2, by rw [hb.cell hg]; exact h3, by rw [hb.cell hg]; exact h4, by rw [hb.cell hg]; exact h5⟩
theorem pmV_5 (a b c d e : Int) : pmV [a, b, c, d, e] = .agg #[.int .i64 a, .int .i64 b, .int .i64 c, .int .i64 d, .int .i64 e] := rfl
end Go.Proofs.Ytejncephbafcdaa
end

section
/- Walks: incidence matrices; sorted designs; numbers of pairs and replications, with codes. -/
namespace Go.Proofs.Ytejncephbafcdaa
set_option linter.unusedSimpArgs false
set_option linter.unusedVariables false
open Go.RowKit
attribute [local go_sem ↓] Go.wp_at_zero Go.wp_at_succ

theorem xat_setA {M : List (List Int)} {j t : Nat} {r : List Int} (h : j < M.length) : xat (M.set j r) t = if j = t then r else xat M t := by
  unfold xat
  rw [List.getD_eq_getElem?_getD, List.getElem?_set]
  split
  · rename_i e; subst e; simp [h]
  · simp
theorem nth_setA {r : List Int} {j t : Nat} {x : Int} (h : j < r.length) : nth (r.set j x) t = if j = t then x else nth r t := by
  unfold nth
  rw [List.getD_eq_getElem?_getD, List.getElem?_set]
  split
  · rename_i e; subst e; simp [h]
  · simp
/-- the incidence matrix, row by row -/
def incR (A : List (List Int)) (x : Nat) : List Int := (List.range A.length).map fun c => if (x : Int) ∈ xat A c then 1 else 0
def incM (P : Nat) (A : List (List Int)) : List (List Int) := (List.range P).map (incR A)
def incC (A : List (List Int)) (k j x c : Nat) : Prop := (c < k ∧ (x : Int) ∈ xat A c) ∨ (c = k ∧ (x : Int) ∈ (xat A k).take j)
open Classical in
structure IncS (P : Nat) (A : List (List Int)) (k j : Nat) (M : List (List Int)) : Prop where
  len : M.length = P
  row : ∀ x, x < P → (xat M x).length = A.length
  at' : ∀ x c, x < P → c < A.length → nth (xat M x) c = if incC A k j x c then 1 else 0
theorem IncS.start (P : Nat) (A : List (List Int)) : IncS P A 0 0 (List.replicate P (List.replicate A.length 0)) := by
  have hx : ∀ x, x < P → xat (List.replicate P (List.replicate A.length (0 : Int))) x = List.replicate A.length 0 := fun x hx => by rw [xat_eq (by simpa using hx)]; simp
  refine ⟨by simp, fun x h => by rw [hx x h]; simp, fun x c h hc => ?_⟩
  rw [hx x h, if_neg, nth_eq (by simpa using hc)]
  · simp
  · rintro (⟨h1, _⟩ | ⟨_, h1⟩)
    · omega
    · simp at h1
theorem IncS.step {P : Nat} {A : List (List Int)} {k j x : Nat} {M : List (List Int)} (h : IncS P A k j M) (hk : k < A.length) (hj : j < (xat A k).length) (hx : nth (xat A k) j = x) (hxP : x < P) : IncS P A k (j + 1) (M.set x ((xat M x).set k 1)) := by
  have hm := fun y : Nat => mem_take1 hj (y : Int)
  refine ⟨by rw [List.length_set]; exact h.len, fun y hy => ?_, fun y c hy hc => ?_⟩
  · rw [xat_setA (by rw [h.len]; exact hxP)]
    split
    · rw [List.length_set]; exact h.row x hxP
    · exact h.row y hy
  · have hiff : incC A k (j + 1) y c ↔ incC A k j y c ∨ (c = k ∧ y = x) := by
      unfold incC
      rw [hm y, hx]
      constructor
      · rintro (h1 | ⟨h1, h2 | h2⟩)
        · exact .inl (.inl h1)
        · exact .inl (.inr ⟨h1, h2⟩)
        · exact .inr ⟨h1, by omega⟩
      · rintro ((h1 | ⟨h1, h2⟩) | ⟨h1, h2⟩)
        · exact .inl h1
        · exact .inr ⟨h1, .inl h2⟩
        · exact .inr ⟨h1, .inr (by rw [h2])⟩
    rw [xat_setA (by rw [h.len]; exact hxP)]
    by_cases e : x = y
    · subst e
      rw [if_pos rfl, nth_setA (by rw [h.row x hxP]; exact hk)]
      by_cases e2 : k = c
      · subst e2; rw [if_pos rfl, if_pos (hiff.2 (.inr ⟨rfl, rfl⟩))]
      · rw [if_neg e2, h.at' x c hxP hc]
        by_cases hcc : incC A k j x c
        · rw [if_pos hcc, if_pos (hiff.2 (.inl hcc))]
        · rw [if_neg hcc, if_neg (fun h' => (hiff.1 h').elim hcc (fun h2 => e2 h2.1.symm))]
    · rw [if_neg e, h.at' y c hy hc]
      by_cases hcc : incC A k j y c
      · rw [if_pos hcc, if_pos (hiff.2 (.inl hcc))]
      · rw [if_neg hcc, if_neg (fun h' => (hiff.1 h').elim hcc (fun h2 => e h2.2.symm))]
theorem IncS.next {P : Nat} {A : List (List Int)} {k : Nat} {M : List (List Int)} (h : IncS P A k (xat A k).length M) : IncS P A (k + 1) 0 M := by
  refine ⟨h.len, h.row, fun x c hx hc => ?_⟩
  have hiff : incC A k (xat A k).length x c ↔ incC A (k + 1) 0 x c := by
    unfold incC
    rw [List.take_length]
    constructor
    · rintro (⟨h1, h2⟩ | ⟨h1, h2⟩)
      · exact .inl ⟨by omega, h2⟩
      · exact .inl ⟨by omega, by rw [h1]; exact h2⟩
    · rintro (⟨h1, h2⟩ | ⟨_, h2⟩)
      · by_cases e : c = k
        · exact .inr ⟨e, by rw [← e]; exact h2⟩
        · exact .inl ⟨by omega, h2⟩
      · simp at h2
  rw [h.at' x c hx hc]
  by_cases hcc : incC A k (xat A k).length x c
  · rw [if_pos hcc, if_pos (hiff.1 hcc)]
  · rw [if_neg hcc, if_neg (fun h' => hcc (hiff.2 h'))]
theorem IncS.fin {P : Nat} {A : List (List Int)} {M : List (List Int)} (h : IncS P A A.length 0 M) : M = incM P A := by
  refine List.ext_getElem (by rw [h.len]; simp [incM]) fun x h1 h2 => ?_
  have hx : x < P := by rw [← h.len]; exact h1
  have hr := h.row x hx
  rw [← xat_eq h1]
  refine List.ext_getElem (by rw [hr]; simp [incM, incR]) fun c h3 h4 => ?_
  have hc : c < A.length := by rw [← hr]; exact h3
  rw [← nth_eq h3, h.at' x c hx hc]
  simp only [incM, incR, List.getElem_map, List.getElem_range]
  have hiff : incC A A.length 0 x c ↔ (x : Int) ∈ xat A c := by
    unfold incC
    constructor
    · rintro (⟨_, h1⟩ | ⟨h1, _⟩)
      · exact h1
      · omega
    · exact fun h1 => .inl ⟨hc, h1⟩
  by_cases hcc : (x : Int) ∈ xat A c
  · rw [if_pos hcc, if_pos (hiff.2 hcc)]
  · rw [if_neg hcc, if_neg (fun h' => hcc (hiff.1 h'))]
set_option maxHeartbeats 4000000 in
set_option maxRecDepth 100000 in
theorem incidences_c (P : Nat) (v : Value) (us : List Value) (A : List (List Int)) (w : World) (hv : RII w v us A) (hD : DOk P A) :
    Calls Try.prog 77 #[dv P v] w (MakesII w (incM P A)) := by
  obtain ⟨a, c, hsh⟩ := hv.1.sl.sh
  rw [hv.2.1] at hsh
  subst hsh
  have hP := hD.le
  have hDl := hD.len
  have HD := Lib.hid hD
  clear hD
  have hS0 := (St.refl w).newboxF 41 #[.int .i64 P, .slice a A.length c]
  have b0 := hS0.bcell 0 rfl 0 rfl
  have hix := hv.ix
  unfold dv
  go_enter Try.func77, Try.ntmps77
  go_wp2_with (at_make; refine mkII hS0 rfl _ _ rfl _ _ P (by go_num) (by go_num) (by omega) ?_; intro v1 w1 hS1; have hl1 := fun (ty : TypeId) (W : World) => run_len_sl (P := Try.prog) (hS1.rd 1 rfl).sl 26 ty Try.und_iss W; simp only [nils, List.length_replicate] at hl1)
  have hi1 := run_ix_sl (P := Try.prog) (hS1.rd 1 rfl).sl 26 Try.und_iss Try.size_is
  simp only [nils, List.length_replicate] at hi1
  have hS1' : St w.heap.size w w1 (box 41 w.heap.size [.int .i64 P, .slice a A.length c] :: row 52 v1 ([] ++ nils (P - 0)) :: rowsI [] (List.replicate 0 (List.replicate A.length 0))) := hS1
  clear hS1 hS0 b0
  go_loopw [4, 14] (fun _ i wr => ∃ (k : Nat) (ws : List Value), k ≤ P ∧ i = .int .i64 k ∧ Hid (ws.length = k) ∧ St w.heap.size w wr (box 41 w.heap.size [.int .i64 P, .slice a A.length c] :: row 52 v1 (ws ++ nils (P - k)) :: rowsI ws (List.replicate k (List.replicate A.length 0)))) (fun _ i _ => P - (intOf i).toNat)
  case atStart => exact ⟨0, [], by omega, rfl, rfl, hS1'⟩
  case round =>
    clear hS1'
    obtain ⟨k, ws, hk, rfl, hw, hS⟩ := hrel
    have b1 := hS.bcell 0 rfl 1 rfl
    by_cases hlt : k < P
    · go_wp2_with (first | (refine stoII hS3 1 rfl k (by simp [nils, hw.out]; omega) rfl (.tmp 23) (.tmp 22) rfl rfl vr hsr.out.cells hsr.out.one rfl ?_; intro w4 hS4) | (at_make; refine mkI hS rfl _ _ rfl _ _ A.length (by go_num) (by go_num) (by omega) ?_; intro vr w3 hS3; have hsr := Lib.hid (hS3.rd (rowsI ws (List.replicate k (List.replicate A.length 0))).length.succ.succ (e := 2) (v := vr) (us := iv (List.replicate A.length 0)) (by simp)).sl))
      simp only [List.cons_append, List.set_cons_succ, List.set_cons_zero] at hS4
      go_roundw
      case rel =>
        refine ⟨k + 1, ws ++ [vr], by omega, by go_num, by simp [Hid, hw.out], ?_⟩
        have e : (ws ++ nils (P - k)).set k vr = (ws ++ [vr]) ++ nils (P - (k + 1)) := by
          rw [nils, show P - k = (P - (k + 1)) + 1 by omega, List.replicate_succ]
          rw [List.set_append_right _ _ (by rw [hw.out]; omega), hw.out]
          simp [nils]
        rw [List.replicate_succ', rowsI_app (by simp [hw.out]), ← e]
        exact hS4
      case measure => simp [intOf]; omega
    · obtain rfl : k = P := by omega
      have hS5 : St w.heap.size w wr (own2 v1 ws (List.replicate k (List.replicate A.length 0)) ++ [box 41 w.heap.size [.int .i64 k, .slice a A.length c]]) := by
        have h0 : ws ++ nils (k - k) = ws := by simp [nils]
        rw [h0] at hS
        exact hS.perm (by (try simp only [own2, List.cons_append, List.nil_append, List.append_nil]); classical exact List.perm_iff_count.2 (fun a => by simp only [List.cons_append, List.nil_append, List.append_nil, List.count_append, List.count_cons, List.count_nil] <;> omega))
      have hM := IncS.start k A
      have Hwl := Lib.hid hw.out
      generalize List.replicate k (List.replicate A.length (0 : Int)) = M0 at *
      have HM := Lib.hid hM
      clear hS hM
      go_wp2_with fail
      go_loopw [5, 6, 8, 28] (fun _ _ _ i wr => ∃ (q : Nat) (M : List (List Int)), q ≤ A.length ∧ i = .int .i64 q ∧ Hid (IncS k A q 0 M) ∧ St w.heap.size w wr (own2 v1 ws M ++ [box 41 w.heap.size [.int .i64 k, .slice a A.length c]])) (fun _ _ _ i _ => A.length - (intOf i).toNat)
      case atStart => exact ⟨0, M0, by omega, rfl, HM, hS5⟩
      case round =>
        clear hS5 HM
        obtain ⟨q, M, hq, rfl, hM, hS⟩ := hrel
        by_cases hqt : q < A.length
        · have hc := (hS.oldII hv).cell q hqt
          have hrk := (hS.oldII hv).row q hqt
          have hlk := hrk.len
          have hik := hrk.ix
          have HI := Lib.hid (HD.out.inc' hqt)
          have hl32 := HI.out.len
          go_wp2_with fail
          go_loopw [8, 35] (fun _ m wr => ∃ (j : Nat) (M : List (List Int)), j ≤ (xat A q).length ∧ m = .int .i64 j ∧ Hid (IncS k A q j M) ∧ St w.heap.size w wr (own2 v1 ws M ++ [box 41 w.heap.size [.int .i64 k, .slice a A.length c]])) (fun _ m _ => (xat A q).length - (intOf m).toNat)
          case atStart => exact ⟨0, M, by omega, rfl, hM, hS⟩
          case round =>
            clear hS hc hrk hM
            obtain ⟨j, M, hj, rfl, hM, hS⟩ := hrel
            by_cases hjt : j < (xat A q).length
            · have cj := ((hS.oldII hv).row q hqt).cell j hjt
              obtain ⟨x, hx, hxP⟩ := HI.out.nat hjt
              rw [hx] at cj
              have hst := Lib.hid (hM.out.step hqt hjt hx hxP)
              have hMl := hM.out.len
              have hMr := hM.out.row x hxP
              have hlS : ws.length = M.length := by rw [Hwl.out, hMl]
              have hat := hS.at_row hlS (j := x) (by rw [hMl]; exact hxP)
              have hrx := hS.rdI (x + 1) hat
              have cx := (rii2 hS hlS).cell x (by rw [hMl]; exact hxP)
              have cxy : wr.cell? (el (vat ws x) q) = some (.int .i64 (nth (xat M x) q)) := hrx.cell q (by rw [hMr]; exact hqt)
              have uxy := hS.unfrozen (x + 1) hat (j := q) (by rw [iv_len, hMr]; exact hqt)
              have xx := hi1 .i64 (x : Int) (by omega) (by omega)
              rw [Int.toNat_natCast] at xx
              have xq := hrx.ixe (q : Int) q rfl (by rw [hMr]; exact hqt)
              have HS9 := Lib.hid (hS.store (x + 1) hat (j := q) (by rw [iv_len, hMr]; exact hqt) (.int .i64 1))
              have Hset := Lib.hid (own2_set (v := v1) (L2 := [box 41 w.heap.size [.int .i64 k, .slice a A.length c]]) hlS (j := x) (by rw [hMl]; exact hxP) ((xat M x).set q 1))
              clear hat hrx hlS hMl hMr hx hM hS
              go_wp2_with fail
              have hS9 := HS9.out
              rw [iv_set, Hset.out] at hS9
              go_roundw
              case rel => exact ⟨j + 1, _, by omega, by go_num, hst, hS9⟩
              case measure => simp [intOf]; omega
            · obtain rfl : j = (xat A q).length := by omega
              have HN := Lib.hid hM.out.next
              go_wp2_with fail
              go_roundw
              case rel => exact ⟨q + 1, M, by omega, by go_num, HN, hS⟩
              case measure => simp [intOf]; omega
        · obtain rfl : q = A.length := by omega
          have hfin := hM.out.fin
          go_wp2_with fail
          go_ret
          exact ⟨_, ws, rfl, by rw [← hfin, Hwl.out, hM.out.len], by rw [← hfin]; exact hS.sub (List.sublist_append_left _ _)⟩
end Go.Proofs.Ytejncephbafcdaa
end

section
/- Walks: the design of an incidence matrix. -/
namespace Go.Proofs.Ytejncephbafcdaa
set_option linter.unusedSimpArgs false
set_option linter.unusedVariables false
open Go.RowKit
attribute [local go_sem ↓] Go.wp_at_zero Go.wp_at_succ

/-- the points below y -/
def blw (b : List Int) (y : Nat) : List Int := b.filter fun z => decide (z < (y : Int))
theorem blw_step {b : List Int} (hp : b.Pairwise (· < ·)) (x : Nat) : blw b (x + 1) = blw b x ++ if (x : Int) ∈ b then [(x : Int)] else [] := by
  induction b with
  | nil => rfl
  | cons a r ih =>
    obtain ⟨h1, h2⟩ := List.pairwise_cons.1 hp
    have ih := ih h2
    unfold blw at ih ⊢
    rcases Int.lt_trichotomy a (x : Int) with h | h | h
    · rw [List.filter_cons_of_pos (by simp; omega), List.filter_cons_of_pos (by simp; omega), ih]
      have : ((x : Int) ∈ a :: r) ↔ (x : Int) ∈ r := by
        rw [List.mem_cons]; constructor
        · rintro (e | e)
          · omega
          · exact e
        · exact .inr
      simp only [this, List.cons_append]
    · have hnr : (x : Int) ∉ r := fun hm => by have := h1 _ hm; omega
      have e0 : r.filter (fun z => decide (z < (x : Int))) = [] := by
        rw [List.filter_eq_nil_iff]; intro z hz; have := h1 z hz; simp; omega
      rw [if_neg hnr, e0] at ih
      rw [List.filter_cons_of_pos (by simp; omega), List.filter_cons_of_neg (by simp; omega), e0, ih, if_pos (by rw [h]; exact List.mem_cons_self), h]; rfl
    · have hnr : (x : Int) ∉ a :: r := fun hm => by
        rcases List.mem_cons.1 hm with e | hm
        · omega
        · have := h1 _ hm; omega
      have e0 : ∀ y : Int, y ≤ a → r.filter (fun z => decide (z < y)) = [] := fun y hy => by
        rw [List.filter_eq_nil_iff]; intro z hz; have := h1 z hz; simp; omega
      rw [List.filter_cons_of_neg (by simp; omega), List.filter_cons_of_neg (by simp; omega), e0 _ (by omega), e0 _ (by omega), if_neg hnr]; rfl
theorem blw_all {P : Nat} {b : List Int} (h : Inc P b) : blw b P = b := by
  unfold blw
  rw [List.filter_eq_self]
  intro z hz
  obtain ⟨j, hj, rfl⟩ := List.getElem_of_mem hz
  have := (h.bd j hj).2
  rw [nth_eq hj] at this
  simpa using this
theorem blw_0 {P : Nat} {b : List Int} (h : Inc P b) : blw b 0 = [] := by
  unfold blw
  rw [List.filter_eq_nil_iff]
  intro z hz
  obtain ⟨j, hj, rfl⟩ := List.getElem_of_mem hz
  have := (h.bd j hj).1
  rw [nth_eq hj] at this
  simp; omega
theorem blw_len (b : List Int) (y : Nat) : (blw b y).length ≤ b.length := List.length_filter_le _ _
/-- the blocks behind x rows and k places -/
structure BlS (A : List (List Int)) (x k : Nat) (M : List (List Int)) : Prop where
  len : M.length = A.length
  at' : ∀ c, c < A.length → xat M c = blw (xat A c) (x + if c < k then 1 else 0)
theorem incB_pw2 {P : Nat} {b : List Int} (h : Inc P b) : b.Pairwise (· < ·) := by
  rw [List.pairwise_iff_getElem]
  intro i j hi hj hij
  have := h.lt i j hij hj
  rwa [nth_eq hi, nth_eq hj] at this
theorem BlS.start {P : Nat} {A : List (List Int)} (hD : DOk P A) : BlS A 0 0 (List.replicate A.length []) :=
  ⟨by simp, fun c hc => by rw [xat_eq (by simpa using hc)]; simp [blw_0 (hD.inc' hc)]⟩
theorem BlS.yes {P : Nat} {A : List (List Int)} {x k : Nat} {M : List (List Int)} (h : BlS A x k M) (hD : DOk P A) (hk : k < A.length) (hx : (x : Int) ∈ xat A k) : BlS A x (k + 1) (M.set k (xat M k ++ [(x : Int)])) :=
  ⟨by rw [List.length_set]; exact h.len, fun c hc => by
    rw [xat_setA (by rw [h.len]; exact hk)]
    by_cases e : k = c
    · subst e
      rw [if_pos rfl, h.at' k hk, if_neg (by omega), if_pos (by omega), Nat.add_zero, blw_step (incB_pw2 (hD.inc' hk)), if_pos hx]
    · rw [if_neg e, h.at' c hc]
      congr 1
      by_cases h2 : c < k
      · rw [if_pos h2, if_pos (by omega)]
      · rw [if_neg h2, if_neg (by omega)]⟩
theorem BlS.no {P : Nat} {A : List (List Int)} {x k : Nat} {M : List (List Int)} (h : BlS A x k M) (hD : DOk P A) (hk : k < A.length) (hx : (x : Int) ∉ xat A k) : BlS A x (k + 1) M :=
  ⟨h.len, fun c hc => by
    rw [h.at' c hc]
    by_cases e : k = c
    · subst e
      rw [if_neg (by omega), if_pos (by omega), Nat.add_zero, blw_step (incB_pw2 (hD.inc' hk)), if_neg hx, List.append_nil]
    · congr 1
      by_cases h2 : c < k
      · rw [if_pos h2, if_pos (by omega)]
      · rw [if_neg h2, if_neg (by omega)]⟩
theorem BlS.next {A : List (List Int)} {x : Nat} {M : List (List Int)} (h : BlS A x A.length M) : BlS A (x + 1) 0 M :=
  ⟨h.len, fun c hc => by rw [h.at' c hc, if_pos hc, if_neg (by omega)]⟩
theorem BlS.fin {P : Nat} {A : List (List Int)} {M : List (List Int)} (h : BlS A P 0 M) (hD : DOk P A) : M = A := by
  refine List.ext_getElem h.len fun c h1 h2 => ?_
  have := h.at' c h2
  rw [if_neg (by omega), Nat.add_zero, blw_all (hD.inc' h2), xat_eq h1, xat_eq h2] at this
  exact this
theorem BlS.small {P : Nat} {A : List (List Int)} {x k : Nat} {M : List (List Int)} (h : BlS A x k M) (hD : DOk P A) {c : Nat} (hc : c < A.length) : (xat M c).length ≤ 32 := by
  rw [h.at' c hc]
  have := blw_len (xat A c) (x + if c < k then 1 else 0)
  have := (hD.inc' hc).len
  have := hD.le
  omega
theorem nth_incM {P : Nat} {A : List (List Int)} {x c : Nat} (hx : x < P) (hc : c < A.length) : nth (xat (incM P A) x) c = if (x : Int) ∈ xat A c then 1 else 0 := by
  rw [xat_eq (by simpa [incM] using hx), nth_eq (by simpa [incM, incR] using hc)]
  simp [incM, incR]
theorem incM_len (P : Nat) (A : List (List Int)) : (incM P A).length = P := by simp [incM]
theorem incM_row {P : Nat} {A : List (List Int)} {x : Nat} (hx : x < P) : (xat (incM P A) x).length = A.length := by
  rw [xat_eq (by simpa [incM] using hx)]; simp [incM, incR]
theorem isBit_c (x : Int) (w : World) (h : x = 0 ∨ x = 1) : Calls Try.prog 79 #[.int .i64 x] w fun e w' => e = .returned (.bool true) ∧ w = w' := by
  rcases h with rfl | rfl
  · go_enter Try.func79, Try.ntmps79
    go_wp2_with fail
    go_ret
    exact ⟨rfl, rfl⟩
  · go_enter Try.func79, Try.ntmps79
    go_wp2_with fail
    go_ret
    exact ⟨rfl, rfl⟩
theorem dom1_c (v : Value) (xs : List Int) (w : World) (hv : RdI w v xs) (h : 0 < xs.length) : Calls Try.prog 80 #[v] w (GivesB w false) := by
  have hln := hv.len
  have f := eq_f (show ¬ (xs.length : Int) = 0 by omega)
  go_enter Try.func80, Try.ntmps80
  go_wp2_with fail
  go_ret
  exact ⟨rfl, St.refl w⟩
/-- the nil slices of a made slice, as rows of nothing -/
theorem St.nilsII {B : Nat} {w0 w : World} {L : List Ent} (h : St B w0 w L) : ∀ n, St B w0 w (L ++ rowsI (nils n) (List.replicate n []))
  | 0 => by simpa [rowsI, nils] using h
  | n + 1 => by
    have := (h.nilsII n).nilrow4 2
    have e : rowsI (nils (n + 1)) (List.replicate (n + 1) []) = rowsI (nils n) (List.replicate n []) ++ [row 2 (.slice none 0 0) []] := by
      unfold nils
      rw [List.replicate_succ', List.replicate_succ', rowsI_app (by simp)]; rfl
    rw [e, ← List.append_assoc]; exact this
theorem rowsI_putA {us : List Value} {R : List (List Int)} (hl : us.length = R.length) {j : Nat} (hj : j < R.length) (u : Value) (r : List Int) : (rowsI us R).set j (row 2 u (iv r)) = rowsI (us.set j u) (R.set j r) := by
  unfold rowsI
  apply List.ext_getElem?
  intro k
  rw [List.getElem?_set]
  simp only [List.getElem?_zipWith, List.getElem?_set, List.length_zipWith]
  by_cases e : j = k
  · subst e
    rw [if_pos rfl, if_pos (by omega), if_pos rfl, if_pos (by omega), if_pos rfl, if_pos hj]
  · rw [if_neg e, if_neg e, if_neg e]
set_option maxHeartbeats 8000000 in
set_option maxRecDepth 100000 in
theorem DesignOfMatrix_c (P : Nat) (vm : Value) (um : List Value) (A : List (List Int)) (w : World) (hv : RII w vm um (incM P A)) (hok : dOk P A = true) :
    Calls Try.prog 33 #[vm] w (MakesD w P A 0) := by
  have hD := dOk_t hok
  have HD := Lib.hid hD
  have hP1 := hD.pos
  have hP := hD.le
  have hDl := hD.len
  have hne := Lib.hid hD.ne
  have hid := Lib.hid (srtL_id hD.srt)
  have hln := hv.len
  have hix := hv.ix
  have hix0 := hv.ixe 0 0 rfl (by rw [incM_len]; omega)
  rw [incM_len] at hln hix
  have hr0 := (hv.row 0 (by rw [incM_len]; omega)).len
  rw [incM_row (show 0 < P by omega)] at hr0
  have hc0 := hv.cell 0 (by rw [incM_len]; omega)
  have hwi : inB (P : Int) 1 32 = true := by simp [inB]; omega
  have KS := fun W h => Lib.hid (szII_c vm um (incM P A) W h)
  rw [incM_len] at KS
  have KW := fun W => Lib.hid (within_c (P : Int) 1 32 W)
  rw [hwi] at KW
  have hS0 := (St.refl w).newboxF 41 #[.int .i64 0, .slice none 0 0]
  have hc1 := (hS0.oldII hv).cell 0 (by rw [incM_len]; omega)
  have rv1 := Lib.hid (hS0.oldII hv)
  have rr := Lib.hid (fun x (hx : x < P) => (hv.row x (by rw [incM_len]; exact hx)).len)
  clear hD hwi
  go_enter Try.func33, Try.ntmps33
  go_wp2_with (first | (go_at_call 41; refine (KS _ rv1.out).out.mono ?_; rintro e w1 ⟨rfl, rfl⟩) | (go_at_call 43; refine (KW _).out.mono ?_; rintro e w1 ⟨rfl, rfl⟩) | (at_make; refine mkII hS0 rfl _ _ rfl _ _ A.length (by go_num) (by go_num) (by omega) ?_; intro v1 w1 hS1))
  have hi1 := run_ix_sl (P := Try.prog) (hS1.rd 1 rfl).sl 26 Try.und_iss Try.size_is
  simp only [nils, List.length_replicate] at hi1
  have hS2 : St w.heap.size w w1 (own2 v1 (nils A.length) (List.replicate A.length []) ++ [box 41 w.heap.size [.int .i64 0, .slice none 0 0]]) :=
    (hS1.nilsII A.length).perm (by simp only [own2, nils, List.cons_append, List.nil_append]; exact (List.Perm.swap _ _ _).trans ((List.perm_append_comm (l₁ := [box 41 w.heap.size [.int .i64 0, .slice none 0 0]])).cons _))
  have HB0 := Lib.hid (BlS.start HD.out)
  have hnl : (nils A.length).length = A.length := by simp [nils]
  have hrl : (List.replicate A.length ([] : List Int)).length = A.length := by simp
  generalize nils A.length = us0 at *
  generalize List.replicate A.length ([] : List Int) = M0 at *
  have Hu0 := Lib.hid hnl
  clear hS1 hS0 rv1 hc1 hnl hrl KS KW
  go_wp2_with fail
  go_loopw [5, 6, 7, 8, 28] (fun _ _ _ _ i wr => ∃ (x : Nat) (ws : List Value) (M : List (List Int)), x ≤ P ∧ i = .int .i64 x ∧ Hid (ws.length = A.length ∧ BlS A x 0 M) ∧ St w.heap.size w wr (own2 v1 ws M ++ [box 41 w.heap.size [.int .i64 0, .slice none 0 0]])) (fun _ _ _ _ i _ => P - (intOf i).toNat)
  case atStart => exact ⟨0, us0, M0, by omega, rfl, ⟨Hu0.out, HB0.out⟩, hS2⟩
  case round =>
    clear hS2 HB0
    obtain ⟨x, ws, M, hx, rfl, hI, hS⟩ := hrel
    by_cases hxP : x < P
    · have cx := (hS.oldII hv).cell x (by rw [incM_len]; exact hxP)
      have cz := (hS.oldII hv).cell 0 (by rw [incM_len]; omega)
      have hlx := rr.out x hxP
      rw [incM_row hxP] at hlx
      have hixx := (hv.row x (by rw [incM_len]; exact hxP)).ix
      rw [incM_row hxP] at hixx
      have f := ne_f (rfl : (A.length : Int) = A.length)
      go_wp2_with fail
      go_loopw [7, 8, 43] (fun _ _ i wr => ∃ (k : Nat) (ws : List Value) (M : List (List Int)), k ≤ A.length ∧ i = .int .i64 k ∧ Hid (ws.length = A.length ∧ BlS A x k M) ∧ St w.heap.size w wr (own2 v1 ws M ++ [box 41 w.heap.size [.int .i64 0, .slice none 0 0]])) (fun _ _ i _ => A.length - (intOf i).toNat)
      case atStart => exact ⟨0, ws, M, by omega, rfl, hI, hS⟩
      case round =>
        clear hS cx cz hI
        obtain ⟨k, ws, M, hk, rfl, hI, hS⟩ := hrel
        by_cases hkt : k < A.length
        · have ck := ((hS.oldII hv).row x (by rw [incM_len]; exact hxP)).cell k (by rw [incM_row hxP]; exact hkt)
          rw [nth_incM hxP hkt] at ck
          by_cases hm : (x : Int) ∈ xat A k
          · rw [if_pos hm] at ck
            have HY := Lib.hid (hI.out.2.yes HD.out hkt hm)
            have hlS : ws.length = M.length := by rw [hI.out.1, hI.out.2.len]
            have hat := hS.at_row hlS (j := k) (by rw [hI.out.2.len]; exact hkt)
            have cb := (rii2 hS hlS).cell k (by rw [hI.out.2.len]; exact hkt)
            have xk := hi1 .i64 (k : Int) (by omega) (by omega)
            rw [Int.toNat_natCast] at xk
            have hsm := hI.out.2.small HD.out hkt
            have hml := Lib.hid (show (xat M k).length < 4294967296 by omega)
            have hkw := Lib.hid (show k < ws.length by rw [hI.out.1]; exact hkt)
            have hkM := Lib.hid (show k < M.length by rw [hI.out.2.len]; exact hkt)
            have Hls := Lib.hid hlS
            have Hat := Lib.hid hat
            clear hm hlS hat hsm
            go_wp2_with (first | (go_at_call 79; refine (isBit_c 1 _ (.inr rfl)).mono ?_; rintro e w6 ⟨rfl, rfl⟩) | (refine stoII hS3 0 rfl k hkw.out rfl (.tmp 63) (.tmp 62) rfl rfl vr hsr.out.cells hsr.out.one rfl ?_; intro w4 hS4) | (at_builtin; refine appI hS (k + 1) Hat.out hml.out rfl _ _ rfl rfl _ rfl ?_; intro vr w3 hS3; have hsr := Lib.hid ((hS3.rdI (k + 1) (e := 2) (v := vr) (xs := xat M k ++ [(x : Int)]) (by rw [List.getElem?_set_self (by simp [own2, rowsI_len Hls.out]; have := hkM.out; omega)])).sl); rw [show (own2 v1 ws M ++ [box 41 w.heap.size [.int .i64 0, .slice none 0 0]]).set (k + 1) (row 2 vr (iv (xat M k ++ [(x : Int)]))) = row 52 v1 ws :: ((rowsI ws M ++ [box 41 w.heap.size [.int .i64 0, .slice none 0 0]]).set k (row 2 vr (iv (xat M k ++ [(x : Int)])))) from rfl] at hS3))
            simp only [List.set_cons_zero] at hS4
            rw [List.set_append_left _ _ (by rw [rowsI_len Hls.out]; exact hkM.out), rowsI_putA Hls.out hkM.out] at hS4
            go_roundw
            case rel => exact ⟨k + 1, ws.set k vr, M.set k (xat M k ++ [(x : Int)]), by omega, by go_num, ⟨by rw [List.length_set]; exact hI.out.1, HY.out⟩, hS4⟩
            case measure => simp [intOf]; omega
          · rw [if_neg hm] at ck
            have HY := Lib.hid (hI.out.2.no HD.out hkt hm)
            clear hm
            go_wp2_with (go_at_call 79; refine (isBit_c 0 _ (.inl rfl)).mono ?_; rintro e w6 ⟨rfl, rfl⟩)
            go_roundw
            case rel => exact ⟨k + 1, ws, M, by omega, by go_num, ⟨hI.out.1, HY.out⟩, hS⟩
            case measure => simp [intOf]; omega
        · obtain rfl : k = A.length := by omega
          have HN := Lib.hid hI.out.2.next
          go_wp2_with fail
          go_roundw
          case rel => exact ⟨x + 1, ws, M, by omega, by go_num, ⟨hI.out.1, HN.out⟩, hS⟩
          case measure => simp [intOf]; omega
    · obtain rfl : x = P := by omega
      have hfin := hI.out.2.fin HD.out
      subst hfin
      have hlS : ws.length = M.length := hI.out.1
      have hR := rii2 hS hlS
      have hcf := callFunc_go Try.func80 (by kernel_rfl) (by kernel_rfl)
      have KF := Lib.hid (show Calls Try.prog 66 #[v1, .func (.func 80) #[] #[]] wr (GivesB wr false) from by
        have := ContainsFuncR_c 80 #[] (fun _ => false) v1 ws M wr hR hcf (fun j W hW hj => dom1_c _ _ W ((hW.oldII hR).row j hj) (hne.out _ (xat_mem hj)))
        rwa [show anyR (fun _ => false) M = false by simp [anyR]] at this)
      have KSo := fun W h => Lib.hid (sorted_c x v1 ws M W h hDl (fun xs hx => by
        obtain ⟨j, hj, rfl⟩ := List.getElem_of_mem hx
        have := (HD.out.inc' hj).len
        rw [xat_eq hj] at this; omega))
      rw [hid.out] at KSo
      have KS2 := fun W h => Lib.hid (szII_c vm um (incM x M) W h)
      rw [incM_len] at KS2
      clear hcf
      go_wp2_with fail
      refine KF.out.mono ?_
      clear KF
      rintro e w5 ⟨rfl, h5⟩
      have hS5 := hS.call0 h5
      go_wp2_with (go_at_call 41; refine (KS2 _ (hS5.oldII hv)).out.mono ?_; rintro e w6 ⟨rfl, rfl⟩)
      refine (KSo _ (rii2 hS5 hlS)).out.mono ?_
      rintro e w7 ⟨v7, us7, rfl, hl7, h7⟩
      obtain ⟨ua, uc, hv7⟩ := (h7.rd 0 (e := 52) (v := v7) (us := us7) rfl).sl.sh
      rw [hl7] at hv7
      subst hv7
      have hB := (hS5.call h7).sub (L' := box 41 w.heap.size [.int .i64 0, .slice none 0 0] :: own2 (.slice ua M.length uc) us7 M) (by
        rw [List.append_assoc]
        exact List.sublist_append_right _ _)
      have c0 := hB.bcell 0 rfl 0 rfl
      have c1 := hB.bcell 0 rfl 1 rfl
      have f0 := hB.bfree 0 rfl
      have h6 := (hB.bstore 0 rfl 0 (.int .i64 x)).bstore 0 rfl 1 (.slice ua M.length uc)
      have d0 := h6.bcell 0 rfl 0 rfl
      have d1 := h6.bcell 0 rfl 1 rfl
      clear hB h7 hS5 hS h5 hR
      unfold dv
      go_wp2_with fail
      refine bodyPost_ret (v := .tuple #[.agg #[.int .i64 x, .slice ua M.length uc], .int .i64 0]) (by simp [results, Try.results33, go_sem, d0, d1]) rfl ?_
      exact ⟨_, us7, rfl, hl7, h6.sub (List.sublist_cons_self _ _)⟩
end Go.Proofs.Ytejncephbafcdaa
end

section
/- Walks: designs that the reference draws. -/
namespace Go.Proofs.Ytejncephbafcdaa
set_option linter.unusedSimpArgs false
set_option linter.unusedVariables false
open Go.RowKit
attribute [local go_sem ↓] Go.wp_at_zero Go.wp_at_succ

theorem putL_inc : ∀ {xs : List Int} {l n x : Int}, incB l n xs = true → l < x → x < n → incB l n (putL xs x) = true
  | [], l, n, x, _, h1, h2 => by rw [putL, incB, if_neg (by omega)]; rfl
  | a :: r, l, n, x, h, h1, h2 => by
    rw [incB] at h
    by_cases hc : a ≤ l ∨ n ≤ a
    · rw [if_pos hc] at h; cases h
    · rw [if_neg hc] at h
      rw [putL]
      by_cases h3 : x < a
      · rw [if_pos h3, incB, if_neg (by omega), incB, if_neg (by omega)]; exact h
      · rw [if_neg h3]
        by_cases h4 : a = x
        · rw [if_pos h4, incB, if_neg hc]; exact h
        · rw [if_neg h4, incB, if_neg hc]; exact putL_inc h (by omega) h2
theorem putL_pos (xs : List Int) (x : Int) : 0 < (putL xs x).length := by
  cases xs with
  | nil => simp [putL]
  | cons a r => rw [putL]; split <;> (try split) <;> simp
def Blk (P : Int) (r : List Int) : Prop := 0 < r.length ∧ r.length ≤ 10 ∧ incB (-1) P r = true
/-- blocks of its own -/
def MakesBl (w0 : World) (cv : Value) (g K : Nat) (L : List Ent) (P : Int) (e : Ending) (w' : World) : Prop := ∃ (v : Value) (us : List Value) (R : List (List Int)), e = .returned v ∧ us.length = R.length ∧ R.length ≤ 8 ∧ (∀ r ∈ R, Blk P r) ∧ Src w0 w' cv g K (own2 v us R ++ L)
set_option maxHeartbeats 8000000 in
set_option maxRecDepth 100000 in
theorem l10DrawBlocks_c (w0 w : World) (cv : Value) (bs : List UInt8) (g K : Nat) (L : List Ent) (P : Int) (hb : RdB w0 cv bs) (h : Src w0 w cv g K L) (hK : K < 100000000) (hP : 1 ≤ P ∧ P ≤ 9) :
    Calls Try.prog 116 #[.pointer (some ⟨g, 0, none⟩), .int .i64 P] w (MakesBl w0 cv g (K + 110) L P) := by
  have h0 := h.empII
  clear h
  go_enter Try.func116, Try.ntmps116
  go_wp2_with fail
  refine (pick_c w0 _ cv bs g _ _ 9 hb h0 (by omega)).mono ?_
  rintro e w1 ⟨n, n0, n1, rfl, h1⟩
  obtain ⟨c, rfl⟩ := Int.eq_ofNat_of_zero_le n0
  have hc : c ≤ 8 := by omega
  clear h0 n0 n1
  go_wp2_with fail
  go_loopw [5, 6, 7, 8] (fun o i _ _ wr => ∃ (m : Nat) (uo : List Value) (R : List (List Int)), m ≤ 8 ∧ i = .int .i64 m ∧ Hid (R.length + m ≤ 8 ∧ uo.length = R.length ∧ ∀ r ∈ R, Blk P r) ∧ Src w0 wr cv g (K + 100 - 12 * m) (own2 o uo R ++ L)) (fun _ i _ _ _ => (intOf i).toNat)
  case atStart => exact ⟨c, [], [], hc, rfl, ⟨by simpa using hc, rfl, fun r hr => by cases hr⟩, h1.mono (by omega)⟩
  case round =>
    clear h1
    obtain ⟨m, uo, R, hm, rfl, hI, hS⟩ := hrel
    by_cases hm0 : 0 < m
    · go_wp2_with fail
      refine (pick_c w0 _ cv bs g _ _ P hb hS (by omega)).mono ?_
      rintro e w2 ⟨y, y0, y1, rfl, h2⟩
      have h3 : Src w0 (w2.alloc (.cells #[.int .i64 y] 2)) cv g _ (row 2 (.slice (some ⟨w2.heap.size, 0, none⟩) 1 1) (iv [y]) :: (own2 u5 uo R ++ L)) := h2.lit [y] (by simp)
      have hy0 : incB (-1) P [y] = true := by rw [incB, if_neg (by omega)]; rfl
      have Hy0 := Lib.hid hy0
      clear hS h2 hy0 y0 y1
      go_wp2_with fail
      refine (pick_c w0 _ cv bs g _ _ 4 hb h3 (by omega)).mono ?_
      rintro e w3 ⟨k, k0, k1, rfl, h4⟩
      obtain ⟨kk, rfl⟩ := Int.eq_ofNat_of_zero_le k0
      have hkk : kk ≤ 3 := by omega
      clear h3 k0 k1
      go_wp2_with fail
      go_loopw [7, 8] (fun q i wx => ∃ (t : Nat) (xs : List Int), t ≤ 3 ∧ i = .int .i64 t ∧ Hid (0 < xs.length ∧ xs.length + t ≤ 4 ∧ incB (-1) P xs = true) ∧ Src w0 wx cv g (K + 100 - 12 * m + 10 - 2 * t) (row 2 q (iv xs) :: (own2 u5 uo R ++ L))) (fun _ i _ => (intOf i).toNat)
      case atStart => exact ⟨kk, [y], hkk, rfl, ⟨by simp, by simp; omega, Hy0.out⟩, h4.mono (by omega)⟩
      case round =>
        clear h4
        obtain ⟨t, xs, ht, rfl, hx, hS⟩ := hrel
        by_cases ht0 : 0 < t
        · go_wp2_with fail
          refine (pick_c w0 _ cv bs g _ _ P hb hS (by omega)).mono ?_
          rintro e w4 ⟨z, z0, z1, rfl, h5⟩
          have hrx := h5.rdI 0 rfl
          have hxl := hx.out.2.1
          have hnew := Lib.hid (And.intro (putL_pos xs z) (And.intro (putL_len xs z) (putL_inc (x := z) hx.out.2.2 (by omega) (by omega))))
          clear hS z0 z1
          go_wp2_with fail
          refine (l00PutX_c u7 xs z _ hrx (by omega)).mono ?_
          rintro e w5 ⟨v5, rfl, h6⟩
          have h7 := ((h5.call h6).sub (L' := (own2 u5 uo R ++ L) ++ [row 2 v5 (iv (putL xs z))]) (List.sublist_cons_self _ _)).perm (L' := row 2 v5 (iv (putL xs z)) :: (own2 u5 uo R ++ L)) List.perm_append_comm
          clear h5 h6 hrx hxl
          go_wp2_with fail
          go_roundw
          case rel => exact ⟨t - 1, putL xs z, by omega, by go_num, ⟨hnew.out.1, by have := hnew.out.2.1; have := hx.out.2.1; omega, hnew.out.2.2⟩, h7.mono (by omega)⟩
          case measure => simp [intOf]; omega
        · obtain ⟨pp, ss, p0, p1, hT⟩ := hS
          have HP := Lib.hid (And.intro p0 p1)
          obtain ⟨la, lc, hle⟩ := (hT.rdI 1 rfl).sl.sh
          rw [iv_len] at hle
          subst hle
          have hul := Lib.hid (show uo.length < 4294967296 by rw [hI.out.2.1]; have := hI.out.1; omega)
          clear p0 p1
          go_wp2_with (at_builtin; refine appII hT 2 rfl hul.out rfl _ _ rfl rfl _ rfl rfl ?_; intro v8 w8 hS8)
          simp only [List.set_cons_succ] at hS8
          go_roundw
          case rel =>
            refine ⟨m - 1, uo ++ [.slice la xs.length lc], R ++ [xs], by omega, by go_num, ⟨by simp; have := hI.out.1; omega, by simp [hI.out.2.1], fun r hr => ?_⟩, pp, ss, HP.out.1, by have := HP.out.2; omega, ?_⟩
            · rcases List.mem_append.1 hr with hr | hr
              · exact hI.out.2.2 r hr
              · obtain rfl := List.mem_singleton.1 hr
                exact ⟨hx.out.1, by have := hx.out.2.1; omega, hx.out.2.2⟩
            · rw [own2, rowsI_app hI.out.2.1]
              have h9 : St w0.heap.size w0 w8 (box 101 g [cv, .int .i64 pp, .int .u64 ss] :: row 2 (.slice la xs.length lc) (iv xs) :: row 52 v8 (uo ++ [.slice la xs.length lc]) :: (rowsI uo R ++ L)) := hS8
              exact h9.perm (by (try simp only [own2, List.cons_append, List.nil_append, List.append_nil]); classical exact List.perm_iff_count.2 (fun a => by simp only [List.cons_append, List.nil_append, List.append_nil, List.count_append, List.count_cons, List.count_nil] <;> omega))
          case measure => simp [intOf]; omega
    · obtain rfl : m = 0 := by omega
      go_wp2_with fail
      go_ret
      exact ⟨_, uo, R, rfl, hI.out.2.1, by have := hI.out.1; omega, hI.out.2.2, hS.mono (by omega)⟩
/-- a design of its own -/
def MakesDd (w0 : World) (cv : Value) (g K : Nat) (L : List Ent) (e : Ending) (w' : World) : Prop := ∃ (P : Nat) (A : List (List Int)) (v : Value) (us : List Value), dOk P A = true ∧ e = .returned (dv P v) ∧ us.length = A.length ∧ Src w0 w' cv g K (own2 v us A ++ L)
set_option maxHeartbeats 8000000 in
set_option maxRecDepth 100000 in
theorem l10Draw_c (w0 w : World) (cv : Value) (bs : List UInt8) (g K : Nat) (L : List Ent) (hb : RdB w0 cv bs) (h : Src w0 w cv g K L) (hK : K < 10000000) :
    Calls Try.prog 65 #[.pointer (some ⟨g, 0, none⟩)] w (MakesDd w0 cv g (K + 200) L) := by
  have h0 := h.newboxF 41 #[.int .i64 0, .slice none 0 0]
  clear h
  go_enter Try.func65, Try.ntmps65
  go_wp2_with fail
  refine (one_c w0 _ cv bs g _ _ 2 hb h0 (by omega)).mono ?_
  rintro e w1 ⟨b, rfl, h1⟩
  clear h0
  cases b
  · go_wp2_with fail
    refine (pick_c w0 _ cv bs g _ _ 9 hb h1 (by omega)).mono ?_
    rintro e w2 ⟨x, x0, x1, rfl, h2⟩
    obtain ⟨P, hP⟩ : ∃ P : Nat, 1 + x = P := ⟨(1 + x).toNat, by omega⟩
    have hP1 : 1 ≤ (P : Int) ∧ (P : Int) ≤ 9 := by omega
    clear h1
    go_wp2_with fail
    try rw [hP]
    clear hP x0 x1
    refine (l10DrawBlocks_c w0 _ cv bs g _ _ P hb h2 (by omega) hP1).mono ?_
    rintro e w3 ⟨v3, us3, R, rfl, hl3, hR8, hblk, h3⟩
    have hrr := h3.riiS (v := v3) (us := us3) (A := R) (List.sublist_append_left _ _) hl3
    have HS := Lib.hid (l10Sort_c v3 us3 R w3 hrr (by omega) (fun xs hx => by have := (hblk xs hx).2.1; omega))
    have HO := Lib.hid (DOk.ok (DOk.mk' (P := P) (A := R) (by omega) (by omega) (by omega) (fun b hb' => ⟨(hblk b hb').1, (hblk b hb').2.2⟩)))
    clear h2 hrr hblk hR8
    go_wp2_with fail
    refine HS.out.mono ?_
    clear HS
    rintro e w5 ⟨v5, us5, rfl, hl5, h5⟩
    obtain ⟨ua, uc, hv5⟩ := (h5.rd 0 (e := 52) (v := v5) (us := us5) rfl).sl.sh
    rw [hl5] at hv5
    generalize srtL R = S at *
    subst hv5
    have h6 := ((h3.call h5).perm (L' := box 41 w.heap.size [.int .i64 0, .slice none 0 0] :: ((own2 (.slice ua S.length uc) us5 S ++ L) ++ own2 v3 us3 R)) (by (try simp only [own2, List.cons_append, List.nil_append, List.append_nil]); classical exact List.perm_iff_count.2 (fun a => by simp only [List.cons_append, List.nil_append, List.append_nil, List.count_append, List.count_cons, List.count_nil] <;> omega))).sub (L' := box 41 w.heap.size [.int .i64 0, .slice none 0 0] :: (own2 (.slice ua S.length uc) us5 S ++ L)) ((List.sublist_append_left _ _).cons_cons _)
    have c0 := h6.box 0 (e := 41) rfl 0 rfl
    have c1 := h6.box 0 (e := 41) rfl 1 rfl
    have f0 := h6.bfree 0 (e := 41) rfl
    have h7 := (h6.bstore 0 (e := 41) rfl 0 (.int .i64 P)).bstore 0 (e := 41) rfl 1 (.slice ua S.length uc)
    simp only [List.set_cons_zero, List.set_cons_succ] at h7
    have d0 := h7.box 0 (e := 41) rfl 0 rfl
    have d1 := h7.box 0 (e := 41) rfl 1 rfl
    clear h3 h5 h6
    go_wp2_with fail
    refine bodyPost_ret (v := .agg #[.int .i64 P, .slice ua S.length uc]) (by simp [results, Try.results65, go_sem, d0, d1]) rfl ?_
    exact ⟨P, S, _, us5, HO.out, rfl, hl5, (h7.sub (List.sublist_cons_self _ _)).mono (by omega)⟩
  · go_wp2_with fail
    refine (l10Known_c w0 _ cv bs g _ _ hb h1 (by omega)).mono ?_
    rintro e w2 ⟨P, A, v, us, hmem, rfl, hl, h2⟩
    have HO := Lib.hid (show dOk P A = true by
      have := kn_chk _ hmem
      unfold chkC chkC1 at this
      simp only [Bool.and_eq_true] at this
      exact this.1.1.1.1.1.1)
    have h3 := h2.perm (L' := box 41 w.heap.size [.int .i64 0, .slice none 0 0] :: (own2 v us A ++ L)) (by (try simp only [own2, List.cons_append, List.nil_append, List.append_nil]); classical exact List.perm_iff_count.2 (fun a => by simp only [List.cons_append, List.nil_append, List.append_nil, List.count_append, List.count_cons, List.count_nil] <;> omega))
    obtain ⟨ra, rc, hre⟩ := (h3.rd 1 (e := 52) (v := v) (us := us) rfl).sl.sh
    rw [hl] at hre
    subst hre
    have c0 := h3.box 0 (e := 41) rfl 0 rfl
    have c1 := h3.box 0 (e := 41) rfl 1 rfl
    have f0 := h3.bfree 0 (e := 41) rfl
    have h7 := (h3.bstore 0 (e := 41) rfl 0 (.int .i64 P)).bstore 0 (e := 41) rfl 1 (.slice ra A.length rc)
    simp only [List.set_cons_zero, List.set_cons_succ] at h7
    have d0 := h7.box 0 (e := 41) rfl 0 rfl
    have d1 := h7.box 0 (e := 41) rfl 1 rfl
    clear h1 h2 h3 hmem
    unfold dv
    go_wp2_with fail
    refine bodyPost_ret (v := .agg #[.int .i64 P, .slice ra A.length rc]) (by simp [results, Try.results65, go_sem, d0, d1]) rfl ?_
    exact ⟨P, A, _, us, HO.out, rfl, hl, (h7.sub (List.sublist_cons_self _ _)).mono (by omega)⟩
def MakesVd (w : World) (e : Ending) (w' : World) : Prop := ∃ (P : Nat) (A : List (List Int)) (v : Value) (us : List Value), dOk P A = true ∧ e = .returned (dv P v) ∧ RII w' v us A ∧ St w.heap.size w w' []
set_option maxHeartbeats 2000000 in
theorem V8Design_c (w : World) (cv : Value) (bs : List UInt8) (hb : RdB w cv bs) : Calls Try.prog 25 #[cv] w (MakesVd w) := by
  have hS0 := (St.refl w).newboxF 41 #[.int .i64 0, .slice none 0 0]
  go_enter Try.func25, Try.ntmps25
  go_wp2_with fail
  refine (l00FromS w _ cv bs _ hb hS0).mono ?_
  rintro e w1 ⟨g, rfl, h1⟩
  go_wp2_with fail
  refine (l10Draw_c w _ cv bs g _ _ hb h1 (by omega)).mono ?_
  rintro e w2 ⟨P, A, v, us, hm, rfl, hl, h2⟩
  have Hm := Lib.hid hm
  have h3 := h2.perm (L' := box 41 w.heap.size [.int .i64 0, .slice none 0 0] :: own2 v us A) (by (try simp only [own2, List.cons_append, List.nil_append, List.append_nil]); classical exact List.perm_iff_count.2 (fun a => by simp only [List.cons_append, List.nil_append, List.append_nil, List.count_append, List.count_cons, List.count_nil] <;> omega))
  have b0 := h3.box 0 (e := 41) rfl 0 rfl
  have b1 := h3.box 0 (e := 41) rfl 1 rfl
  have f0 := h3.bfree 0 (e := 41) rfl
  obtain ⟨ra, rc, hre⟩ := (h3.rd 1 (e := 52) (v := v) (us := us) rfl).sl.sh
  rw [hl] at hre
  subst hre
  have h7 := (h3.bstore 0 (e := 41) rfl 0 (.int .i64 P)).bstore 0 (e := 41) rfl 1 (.slice ra A.length rc)
  simp only [List.set_cons_zero, List.set_cons_succ] at h7
  have d0 := h7.box 0 (e := 41) rfl 0 rfl
  have d1 := h7.box 0 (e := 41) rfl 1 rfl
  have hR7 := h7.riiS (v := .slice ra A.length rc) (us := us) (A := A) (List.sublist_cons_self _ _) hl
  clear h1 h2 h3 hm
  unfold dv
  go_wp2_with fail
  refine bodyPost_ret (v := .agg #[.int .i64 P, .slice ra A.length rc]) (by simp [results, Try.results25, go_sem, d0, d1]) rfl ?_
  exact ⟨P, A, _, us, Hm.out, rfl, hR7, h7.st.sub (List.nil_sublist _)⟩
end Go.Proofs.Ytejncephbafcdaa
end
