/- Walks: the cycles of a permutation. -/
import Derived.Test.YtcenabaklokhhaaPm3
import Derived.Test.YtcenabaklokhhaaBo
import Derived.Test.YtcenabaklokhhaaPCyc2
namespace Go.Proofs.Ytcenabaklokhhaa
set_option linter.unusedSimpArgs false
set_option linter.unusedVariables false
open Go.RowKit
attribute [local go_sem ↓] Go.wp_at_zero Go.wp_at_succ

def ofN (l : List Nat) : List Int := l.map fun k : Nat => (k : Int)
theorem ofN_len (l : List Nat) : (ofN l).length = l.length := by simp [ofN]
/-- the cycles that numbers below m lead -/
noncomputable def cyM (xs : List Int) (m : Nat) : List (List Int) := (cycs xs.length (pf xs) m).map ofN
/-- the first j numbers of the cycle of x -/
def cyP (xs : List Int) (x j : Nat) : List Int := (List.range j).map fun i => ((it (pf xs) i x : Nat) : Int)
theorem cyP_succ (xs : List Int) (x j : Nat) : cyP xs x (j + 1) = cyP xs x j ++ [((it (pf xs) j x : Nat) : Int)] := by simp [cyP, List.range_succ]
theorem cyP_len (xs : List Int) (x j : Nat) : (cyP xs x j).length = j := by simp [cyP]
theorem cyP_all (xs : List Int) (x : Nat) : cyP xs x (clen xs.length (pf xs) x) = ofN (cycL xs.length (pf xs) x) := by simp [cyP, ofN, cycL]
theorem cyM_yes {xs : List Int} {m : Nat} (h : Lead (pf xs) m) : cyM xs (m + 1) = cyM xs m ++ [cyP xs m (clen xs.length (pf xs) m)] := by
  unfold cyM; rw [cycs, if_pos h, cyP_all]; simp
theorem cyM_no {xs : List Int} {m : Nat} (h : ¬ Lead (pf xs) m) : cyM xs (m + 1) = cyM xs m := by
  unfold cyM; rw [cycs, if_neg h]; simp
theorem cyM_len (xs : List Int) (m : Nat) : (cyM xs m).length ≤ m := by
  unfold cyM; rw [List.length_map, cycs_len]
  induction m with
  | zero => simp [cyc]
  | succ m ih => rw [cyc]; split <;> omega
/-- what is seen: all cycles that numbers below m lead, and the first j numbers of that of m -/
def Seen (xs : List Int) (m j : Nat) (s : List Bool) : Prop := s.length = xs.length ∧ ∀ y, y < xs.length → (bat s y = true ↔ y ∈ (cycs xs.length (pf xs) m).flatten ∨ ∃ i, i < j ∧ y = it (pf xs) i m)
theorem Seen.start (xs : List Int) : Seen xs 0 0 (List.replicate xs.length false) := ⟨by simp, fun y hy => by rw [bat_rep]; simp [cycs]⟩
theorem Seen.step {xs : List Int} {m j : Nat} {s : List Bool} (h : Seen xs m j s) (hp : IsP xs) (hm : m < xs.length) : Seen xs m (j + 1) (s.set (it (pf xs) j m) true) := by
  have hlt := it_lt hp.bij hm j
  refine ⟨by rw [List.length_set]; exact h.1, fun y hy => ?_⟩
  rw [bat_set (by rw [h.1]; exact hlt)]
  by_cases e : it (pf xs) j m = y
  · rw [if_pos e]; exact ⟨fun _ => .inr ⟨j, by omega, e.symm⟩, fun _ => rfl⟩
  · rw [if_neg e, h.2 y hy]
    constructor
    · rintro (h1 | ⟨i, hi, e2⟩)
      · exact .inl h1
      · exact .inr ⟨i, by omega, e2⟩
    · rintro (h1 | ⟨i, hi, e2⟩)
      · exact .inl h1
      · refine .inr ⟨i, ?_, e2⟩
        refine Nat.lt_of_le_of_ne (by omega) fun e3 => e ?_
        rw [e2, e3]
theorem Seen.no {xs : List Int} {m : Nat} {s : List Bool} (h : Seen xs m 0 s) (hp : IsP xs) (hm : m < xs.length) (hL : ¬ Lead (pf xs) m) : bat s m = true ∧ Seen xs (m + 1) 0 s := by
  have hs := fun hh => hL ((lead_seen hp.bij hm).2 hh)
  refine ⟨(h.2 m hm).2 (.inl (Classical.byContradiction hs)), h.1, fun y hy => ?_⟩
  rw [h.2 y hy, cycs, if_neg hL]; simp
theorem Seen.fresh {xs : List Int} {m j : Nat} {s : List Bool} (h : Seen xs m j s) (hp : IsP xs) (hm : m < xs.length) (hL : Lead (pf xs) m) (hj : j < clen xs.length (pf xs) m) : bat s (it (pf xs) j m) = false := by
  have hlt := it_lt hp.bij hm j
  have hc := clen_ok hp.bij hm
  cases e : bat s (it (pf xs) j m) with
  | false => rfl
  | true =>
    rcases (h.2 _ hlt).1 e with h1 | ⟨i, hi, e2⟩
    · exact absurd h1 (lead_fresh hp.bij hm hL ((mem_cycL hp.bij hm).2 ⟨j, rfl⟩))
    · have := hc.inj hp.bij hm hj (by omega) e2; omega
theorem Seen.back {xs : List Int} {m : Nat} {s : List Bool} (h : Seen xs m (clen xs.length (pf xs) m) s) (hp : IsP xs) (hm : m < xs.length) (hL : Lead (pf xs) m) : bat s (it (pf xs) (clen xs.length (pf xs) m) m) = true ∧ Seen xs (m + 1) 0 s := by
  have hc := clen_ok hp.bij hm
  have hb := hc.back
  refine ⟨?_, h.1, fun y hy => ?_⟩
  · rw [hb]; exact (h.2 m hm).2 (.inr ⟨0, hc.pos, rfl⟩)
  · rw [h.2 y hy, cycs, if_pos hL]
    simp only [List.flatten_append, List.flatten_cons, List.flatten_nil, List.append_nil, List.mem_append]
    constructor
    · rintro (h1 | ⟨i, hi, rfl⟩)
      · exact .inl (.inl h1)
      · exact .inl (.inr ((mem_cycL hp.bij hm).2 ⟨i, rfl⟩))
    · rintro ((h1 | h1) | ⟨i, hi, _⟩)
      · exact .inl h1
      · unfold cycL at h1
        obtain ⟨i, hi, rfl⟩ := List.mem_map.1 h1
        exact .inr ⟨i, List.mem_range.1 hi, rfl⟩
      · omega
theorem rowsI_snoc {us : List Value} {R : List (List Int)} (hl : us.length = R.length) (u : Value) (xs : List Int) : rowsI (us ++ [u]) (R ++ [xs]) = rowsI us R ++ [row 2 u (iv xs)] := rowsI_app hl u xs
set_option maxHeartbeats 4000000 in
set_option maxRecDepth 100000 in
theorem cyclesOf_c (v : Value) (xs : List Int) (w : World) (hv : RdI w v xs) (hp : IsP xs) (hN : xs.length ≤ 1000) : Calls Try.prog 159 #[v] w (MakesII w (cyM xs xs.length)) := by
  have hlx := hv.len
  have hix := hv.ix
  have HP := Lib.hid hp
  clear hp
  go_enter Try.func159, Try.ntmps159
  go_wp2_with (at_make; refine mkO (St.refl w) rfl _ _ rfl _ _ xs.length rfl rfl (by omega) ?_; intro sv w1 hS1; have hr := hS1.rdO 0 rfl; have hsx := hr.ix; simp only [List.length_replicate] at hsx; clear hr)
  go_loopw [4, 5, 6, 7, 13] (fun c _ _ _ x wr => ∃ (k : Nat) (us : List Value) (s : List Bool), k ≤ xs.length ∧ x = .int .i64 k ∧ Hid (us.length = (cyM xs k).length) ∧ Hid (Seen xs k 0 s) ∧ St w.heap.size w wr (row 4 sv (bo s) :: row 23 c us :: rowsI us (cyM xs k))) (fun _ _ _ _ x _ => xs.length - (intOf x).toNat)
  case atStart => exact ⟨0, [], _, by omega, rfl, rfl, Seen.start xs, hS1.newnil 23⟩
  case round =>
    clear hS1
    obtain ⟨k, us, s, hk, rfl, hus, hse, hS⟩ := hrel
    by_cases hlt : k < xs.length
    · have hck := (hS.rdO 0 rfl).cell k (by rw [hse.out.1]; exact hlt)
      by_cases hL : Lead (pf xs) k
      · have HL := Lib.hid hL
        have Hc := Lib.hid (clen_ok HP.out.bij hlt)
        have hcp := Hc.out.pos
        have Hcl := Lib.hid Hc.out.le
        have hS2 : St w.heap.size w wr (row 2 (.slice none 0 0) (iv (cyP xs k 0)) :: row 4 sv (bo s) :: row 23 u4 us :: rowsI us (cyM xs k)) := (hS.newnil 2).perm List.perm_append_comm
        have hcl' : clen xs.length (pf xs) k ≤ 1000 := by have := Hcl.out; omega
        clear hL
        go_wp2_with fail
        go_loopw [6, 7] (fun c y wr => ∃ (j : Nat) (s : List Bool) (a : Option Addr) (cap : Nat), j ≤ clen xs.length (pf xs) k ∧ c = .slice a j cap ∧ y = .int .i64 (it (pf xs) j k : Nat) ∧ Hid (Seen xs k j s) ∧ St w.heap.size w wr (row 2 c (iv (cyP xs k j)) :: row 4 sv (bo s) :: row 23 u4 us :: rowsI us (cyM xs k))) (fun c _ _ => clen xs.length (pf xs) k - (match c with | .slice _ n _ => n | _ => 0))
        case atStart => exact ⟨0, s, none, 0, by omega, rfl, rfl, hse, hS2⟩
        case round =>
          clear hS hS2 hck
          obtain ⟨j, s, a, cap, hj, rfl, rfl, hse, hS⟩ := hrel
          have hyl := it_lt HP.out.bij hlt j
          have hcy := (hS.rdO 1 rfl).cell (it (pf xs) j k) (by rw [hse.out.1]; exact hyl)
          by_cases hjl : j < clen xs.length (pf xs) k
          · rw [hse.out.fresh HP.out hlt HL.out hjl] at hcy
            have hcx := (hS.oldI hv).cell (it (pf xs) j k) hyl
            rw [nth_pf HP.out hyl, show pf xs (it (pf xs) j k) = it (pf xs) (j + 1) k from rfl] at hcx
            have Hst := Lib.hid (hse.out.step HP.out hlt)
            have hyl' := Lib.hid (show it (pf xs) j k < s.length by rw [hse.out.1]; exact hyl)
            have Hlen := Lib.hid (cyP_len xs k j)
            have Hsuc := Lib.hid (cyP_succ xs k j)
            have hcP : ∀ (wz : World) (sz : List Bool) (c2 : Value), St w.heap.size w wz (row 2 c2 (iv (cyP xs k j ++ [((it (pf xs) j k : Nat) : Int)])) :: row 4 sv (bo sz) :: row 23 u4 us :: rowsI us (cyM xs k)) → wz.cell? (el v (it (pf xs) j k)) = some (.int .i64 ((it (pf xs) (j + 1) k : Nat) : Int)) := fun wz sz c2 h => by
              have := (h.oldI hv).cell (it (pf xs) j k) hyl
              rwa [nth_pf HP.out hyl] at this
            clear hcx
            generalize it (pf xs) j k = y at *
            generalize hy' : it (pf xs) (j + 1) k = y' at *
            have Hy' := Lib.hid hy'
            clear hy'
            go_wp2_with (first
              | (at_builtin; refine appI hS2 0 rfl (by rw [Hlen.out]; omega) rfl _ _ rfl rfl _ rfl ?_; intro c2 w3 hS3; have hcz := hcP _ _ _ hS3)
              | (refine stoO hS 1 rfl y hyl'.out rfl _ _ rfl rfl true rfl ?_; intro w2 hS2))
            simp only [List.set_cons_zero, List.set_cons_succ] at hS3
            obtain ⟨a3, c3, hv3⟩ := (hS3.rdI 0 rfl).shz
            rw [List.length_append, Hlen.out] at hv3
            simp only [List.length_cons, List.length_nil, Nat.zero_add] at hv3
            subst hv3
            go_roundw
            case rel => exact ⟨j + 1, _, a3, c3, by omega, rfl, by rw [Hy'.out], Hst.out, by rw [Hsuc.out]; exact hS3⟩
            case measure => simp; omega
          · obtain rfl : j = clen xs.length (pf xs) k := by omega
            have hb := hse.out.back HP.out hlt HL.out
            rw [hb.1] at hcy
            have Hb := Lib.hid hb.2
            have Hyes := Lib.hid (cyM_yes HL.out)
            have hlu := Lib.hid (show us.length < 4294967296 by have := cyM_len xs k; rw [hus.out]; omega)
            have hjp : (0 : Int) < (clen xs.length (pf xs) k : Nat) := by omega
            clear hb hse
            go_wp2_with (at_builtin; refine appII hS 2 rfl hlu.out rfl _ _ rfl rfl _ rfl rfl ?_; intro c2 w3 hS3)
            simp only [List.set_cons_zero, List.set_cons_succ] at hS3
            go_roundw
            case rel => exact ⟨k + 1, us ++ [.slice a (clen xs.length (pf xs) k) cap], s, by omega, by go_num, by unfold Hid; rw [Hyes.out]; simp; exact hus.out, Hb.out, by
              rw [Hyes.out, rowsI_snoc hus.out]
              exact hS3.perm (by (try simp only [own2, List.cons_append, List.nil_append, List.append_nil]); classical exact List.perm_iff_count.2 (fun a => by simp only [List.cons_append, List.nil_append, List.append_nil, List.count_append, List.count_cons, List.count_nil] <;> omega))⟩
            case measure => simp [intOf]; omega
      · have Hno := Lib.hid (hse.out.no HP.out hlt hL)
        have Hq := Lib.hid (cyM_no hL)
        rw [Hno.out.1] at hck
        clear hL hse
        go_wp2_with fail
        go_loopw [6, 7] (fun c y wr' => c = .slice none 0 0 ∧ y = .int .i64 k ∧ wr' = wr) (fun _ _ _ => 0)
        case atStart => exact ⟨rfl, rfl, rfl⟩
        case round =>
          obtain ⟨rfl, rfl, rfl⟩ := hrel
          go_wp2_with fail
          go_roundw
          case rel => exact ⟨k + 1, us, s, by omega, by go_num, by unfold Hid; rw [Hq.out]; exact hus.out, Hno.out.2, by rw [Hq.out]; exact hS⟩
          case measure => simp [intOf]; omega
    · obtain rfl : k = xs.length := by omega
      go_wp2_with fail
      go_ret
      exact ⟨_, us, rfl, hus.out, hS.sub (List.sublist_cons_self _ _)⟩
end Go.Proofs.Ytcenabaklokhhaa
