/- Walks: sets. -/
import Derived.Test.YtonmggppfopidaaNum
import Derived.Test.YtonmggppfopidaaSrc
import Derived.Test.YtonmggppfopidaaPSet
namespace Go.Proofs.Ytonmggppfopidaa
set_option linter.unusedSimpArgs false
set_option linter.unusedVariables false
open Go.RowKit

def validSetB (xs : List Int) (n : Int) : Bool := incB (-1) n xs && inB n 0 32

theorem incB_drop {xs : List Int} {k : Nat} (hk : k < xs.length) (last n : Int) :
    incB last n (xs.drop k) = if nth xs k ≤ last ∨ n ≤ nth xs k then false else incB (nth xs k) n (xs.drop (k + 1)) := by
  rw [drop_nth hk]; rfl

set_option maxHeartbeats 1000000 in
theorem ValidSet_c (v : Value) (xs : List Int) (n : Int) (w : World) (hv : RdI w v xs) :
    Calls Try.prog 45 #[v, .int .i64 n] w fun e w' => e = .returned (.bool (validSetB xs n)) ∧ w = w' := by
  have hln := hv.len
  have hix := hv.ix
  have hcell := hv.cell
  have hm := hv.le
  go_enter Try.func45, Try.ntmps45
  go_wp2_with fail
  go_loop [5, 7, 10] (fun l x i => ∃ (k : Nat) (last : Int), k ≤ xs.length ∧ i = .int .i64 k ∧ l = .int .i64 last ∧ Hid (incB (-1) n xs = incB last n (xs.drop k))) (fun _ _ i => xs.length - (intOf i).toNat)
  case atStart => exact ⟨0, -1, by omega, rfl, rfl, rfl⟩
  case round =>
    obtain ⟨k, last, hk, rfl, rfl, hI⟩ := hrel
    by_cases hlt : k < xs.length
    · have hd := Lib.hid (incB_drop hlt last n)
      by_cases h1 : nth xs k ≤ last
      · go_wp2_with fail
        go_ret
        exact ⟨ret_bool (by rw [validSetB, hI.out, hd.out]; simp [h1]), rfl⟩
      · by_cases h2 : n ≤ nth xs k
        · go_wp2_with fail
          go_ret
          exact ⟨ret_bool (by rw [validSetB, hI.out, hd.out]; simp [h2]), rfl⟩
        · go_wp2_with fail
          go_round
          case rel => exact ⟨k + 1, nth xs k, by omega, by go_num, rfl, by rw [Hid, hI.out, hd.out]; simp [h1, h2]⟩
          case measure => simp [intOf]; omega
    · go_wp2_with (go_at_call 67; refine (within_c _ _ _ _).mono ?_; rintro e w' ⟨rfl, rfl⟩)
      go_ret
      exact ⟨ret_bool (by rw [validSetB, hI.out, List.drop_of_length_le (by omega)]; simp [incB]), rfl⟩

theorem validSetB_32 (xs : List Int) : validSetB xs 32 = incB (-1) 32 xs := by simp [validSetB, inB]

/-- the first place of a number from place k on, or -1 -/
def idxF (x : Int) (xs : List Int) (k : Nat) : Int := match (xs.drop k).findIdx? (x == ·) with | some j => (k + j : Nat) | none => -1

set_option maxHeartbeats 1000000 in
theorem Index_c (v : Value) (xs : List Int) (x : Int) (w : World) (hv : RdI w v xs) :
    Calls Try.prog 135 #[v, .int .i64 x] w fun e w' => e = .returned (.int .i64 (idxF x xs 0)) ∧ w = w' := by
  have hln := hv.len
  have hix := hv.ix
  have hcell := hv.cell
  have hm := hv.le
  go_enter Try.func135, Try.ntmps135
  go_wp2_with fail
  go_loop [5, 8] (fun _ i => ∃ k : Nat, k ≤ xs.length ∧ i = .int .i64 k ∧ Hid (idxF x xs 0 = idxF x xs k)) (fun _ i => xs.length - (intOf i).toNat)
  case atStart => exact ⟨0, by omega, rfl, rfl⟩
  case round =>
    obtain ⟨k, hk, rfl, hI⟩ := hrel
    by_cases hlt : k < xs.length
    · by_cases h1 : x = nth xs k
      · have f1 := eq_t h1
        have H1 := Lib.hid h1; clear h1
        go_wp2_with fail
        go_ret
        refine ⟨ret_i64 ?_, rfl⟩
        rw [hI.out, idxF, drop_nth hlt, List.findIdx?_cons, f1]; simp
      · have f1 := eq_f h1
        have H1 := Lib.hid h1; clear h1
        go_wp2_with fail
        go_round
        case rel =>
          refine ⟨k + 1, by omega, by go_num, ?_⟩
          rw [Hid, hI.out, idxF, drop_nth hlt, List.findIdx?_cons, f1]
          simp only [idxF]
          cases (xs.drop (k + 1)).findIdx? (x == ·) <;> simp <;> omega
        case measure => simp [intOf]; omega
    · go_wp2_with fail
      go_ret
      exact ⟨ret_i64 (by rw [hI.out, idxF, List.drop_of_length_le (by omega)]; rfl), rfl⟩

theorem idxF_ge {x : Int} {xs : List Int} : decide (0 ≤ idxF x xs 0) = xs.contains x := by
  unfold idxF
  rw [List.drop_zero]
  cases h : xs.findIdx? (x == ·) with
  | none =>
    have hn : xs.contains x = false := by
      rw [Bool.eq_false_iff]; intro hc
      rw [List.contains_iff_mem] at hc
      have := List.findIdx?_eq_none_iff.1 h x hc
      simp at this
    rw [hn]; simp
  | some j =>
    have hy : xs.contains x = true := by
      rw [List.contains_iff_mem]
      obtain ⟨hj, hp, _⟩ := List.findIdx?_eq_some_iff_getElem.1 h
      have : x = xs[j] := by simpa using hp
      rw [this]; exact List.getElem_mem hj
    rw [hy]; simp

theorem Contains_c (v : Value) (xs : List Int) (x : Int) (w : World) (hv : RdI w v xs) :
    Calls Try.prog 122 #[v, .int .i64 x] w fun e w' => e = .returned (.bool (decide (x ∈ xs))) ∧ w = w' := by
  go_enter Try.func122, Try.ntmps122
  go_wp2_with fail
  refine (Index_c v xs x w hv).mono ?_
  rintro e w1 ⟨rfl, rfl⟩
  go_wp2_with fail
  go_ret
  exact ⟨ret_bool (by rw [← ce]; exact idxF_ge), rfl⟩

set_option maxHeartbeats 1000000 in
set_option maxRecDepth 100000 in
theorem b10Nums_c (va vb : Value) (xs ys : List Int) (w : World) (ha : RdI w va xs) (hb : RdI w vb ys) :
    Calls Try.prog 46 #[va, vb] w (GivesB w (decide (xs = ys))) := by
  have hla := ha.len
  have hlb := hb.len
  have hia := ha.ix
  have hib := hb.ix
  have hma := ha.le
  by_cases hne : xs.length = ys.length
  · have f0 : ((xs.length : Int) != (ys.length : Int)) = false := ne_f (by omega)
    have hle : xs.length ≤ ys.length := by omega
    have Hne := Lib.hid hne; clear hne
    go_enter Try.func46, Try.ntmps46
    go_wp2_with fail
    go_loopw [5] (fun i wr => ∃ k : Nat, k ≤ xs.length ∧ i = .int .i64 k ∧ Hid (∀ j, j < k → nth xs j = nth ys j) ∧ St w.heap.size w wr []) (fun i _ => xs.length - (intOf i).toNat)
    case atStart => exact ⟨0, by omega, rfl, fun j hj => by omega, St.refl w⟩
    case round =>
      obtain ⟨k, hk, rfl, hI, hS⟩ := hrel
      by_cases hlt : k < xs.length
      · have hqa := fun s : SS w.heap.size w [] => (s.st.oldI ha).cell k hlt
        have hqb := fun s : SS w.heap.size w [] => (s.st.oldI hb).cell k (by omega)
        have hk2 : k < ys.length := by omega
        by_cases h1 : nth xs k = nth ys k
        · have f1 := ne_f h1
          have H1 := Lib.hid h1; clear h1
          go_wp2_with fail
          have hne : Nonempty (SS _ _ _) := ⟨⟨_, hS⟩⟩
          refine wp_region_st (by kernel_rfl) (by kernel_rfl) hS ?_
          repeat (go_big_quiet_step (fail))
          refine wpQuiet_nil ?_
          rintro _ ⟨s2, rfl⟩
          have hS2 := s2.st
          generalize s2.w = w2 at hS2 ⊢
          go_wp2_with fail
          go_roundw
          case rel => exact ⟨k + 1, by omega, by go_num, fun j hj => by
            by_cases e : j = k
            · subst e; exact H1.out
            · exact hI.out j (by omega), hS2⟩
          case measure => simp [intOf]; omega
        · have f1 := ne_t h1
          have H1 := Lib.hid h1; clear h1
          go_wp2_with fail
          have hne : Nonempty (SS _ _ _) := ⟨⟨_, hS⟩⟩
          refine wp_region_st (by kernel_rfl) (by kernel_rfl) hS ?_
          repeat (go_big_quiet_step (fail))
          refine wpQuiet_nil ?_
          rintro _ ⟨s2, rfl⟩
          have hS2 := s2.st
          generalize s2.w = w2 at hS2 ⊢
          go_wp2_with fail
          go_ret
          exact ⟨ret_bool (by symm; rw [decide_eq_false_iff_not]; intro e; subst e; exact H1.out rfl), hS2⟩
      · go_wp2_with fail
        go_ret
        refine ⟨ret_bool ?_, hS⟩
        symm; rw [decide_eq_true_iff]
        apply List.ext_getElem Hne.out
        intro j h1 h2
        have := hI.out j (by omega)
        rwa [nth_eq h1, nth_eq h2] at this
  · have f0 : ((xs.length : Int) != (ys.length : Int)) = true := ne_t (by omega)
    have Hne := Lib.hid hne; clear hne
    go_enter Try.func46, Try.ntmps46
    go_wp2_with fail
    go_ret
    exact ⟨ret_bool (by symm; rw [decide_eq_false_iff_not]; intro e; exact Hne.out (by rw [e])), St.refl w⟩

set_option maxHeartbeats 2000000 in
set_option maxRecDepth 100000 in
theorem filtered_c (K : FuncId) (hcf : ∀ (args : Array Value) (W : World), (callFunc K args).run Try.prog W = .ok (.enter K args) W) (f : Bool → Bool → Bool) (hK : ∀ (a b : Bool) (W : World), Calls Try.prog K #[.bool a, .bool b] W fun e w' => e = .returned (.bool (f a b)) ∧ W = w')
    (va vb : Value) (xs ys : List Int) (w : World) (ha : RdI w va xs) (hb : RdI w vb ys) :
    Calls Try.prog 89 #[va, vb, .func (.func K) #[] #[]] w (MakesI w (filtR f xs ys)) := by
  have HK := Lib.hid hK
  clear hK
  have vx := validSetB_32 xs
  have vy := validSetB_32 ys
  by_cases h1 : IsSet xs
  · have h1' : incB (-1) 32 xs = true := h1
    by_cases h2 : IsSet ys
    · have h2' : incB (-1) 32 ys = true := h2
      have Hg := Lib.hid (show filtR f xs ys = [] ++ upF (fun x => f (xs.contains x) (ys.contains x)) 0 32 by rw [filtR, if_pos ⟨h1, h2⟩]; rfl)
      go_enter Try.func89, Try.ntmps89
      go_wp2_with fail
      refine (ValidSet_c va xs 32 w ha).mono ?_
      rw [vx, h1']
      rintro e w1 ⟨rfl, rfl⟩
      go_wp2_with fail
      refine (ValidSet_c vb ys 32 w hb).mono ?_
      rw [vy, h2']
      rintro e w1 ⟨rfl, rfl⟩
      clear vx vy h1' h2'
      go_wp2_with fail
      go_loopw [7, 8] (fun v i wr => ∃ (k : Nat) (zs : List Int), k ≤ 32 ∧ zs.length ≤ k ∧ i = .int .i64 k ∧ Hid (filtR f xs ys = zs ++ upF (fun x => f (xs.contains x) (ys.contains x)) k (32 - k)) ∧
          St w.heap.size w wr [row 2 v (iv zs)]) (fun _ i _ => 32 - (intOf i).toNat)
      case atStart => exact ⟨0, [], by omega, by simp, rfl, Hg, (St.refl w).emp⟩
      case round =>
        obtain ⟨k, zs, hk, hz, rfl, hI, hS⟩ := hrel
        by_cases hlt : k < 32
        · go_wp2_with fail
          refine (Contains_c va xs k wr (hS.oldI ha)).mono ?_
          rintro e w2 ⟨rfl, rfl⟩
          go_wp2_with fail
          refine (Contains_c vb ys k wr (hS.oldI hb)).mono ?_
          rintro e w2 ⟨rfl, rfl⟩
          go_wp2_with fail
          refine (HK.out _ _ _).mono ?_
          rintro e w2 ⟨rfl, rfl⟩
          have hstep : upF (fun x => f (xs.contains x) (ys.contains x)) k (32 - k) = if f (xs.contains (k : Int)) (ys.contains (k : Int)) then (k : Int) :: upF (fun x => f (xs.contains x) (ys.contains x)) (k + 1) (32 - (k + 1)) else upF (fun x => f (xs.contains x) (ys.contains x)) (k + 1) (32 - (k + 1)) := by
            rw [show 32 - k = (32 - (k + 1)) + 1 by omega]; rfl
          rw [ce, ce] at hstep
          have Hs := Lib.hid hstep
          clear hstep
          by_cases hf : f (decide ((k : Int) ∈ xs)) (decide ((k : Int) ∈ ys)) = true
          · rw [hf]
            have Hf := Lib.hid hf; clear hf
            go_wp2_with (at_builtin; refine appI hS 0 rfl (by omega) rfl _ _ rfl rfl _ rfl ?_; intro v' w2 hS2)
            go_roundw
            case rel => exact ⟨k + 1, zs ++ [(k : Int)], by omega, by simp; omega, by go_num, by rw [Hid, hI.out, Hs.out, if_pos Hf.out]; simp, hS2⟩
            case measure => simp [intOf]; omega
          · have hf' : f (decide ((k : Int) ∈ xs)) (decide ((k : Int) ∈ ys)) = false := by simpa using hf
            rw [hf']
            have Hf := Lib.hid hf'; clear hf hf'
            go_wp2_with fail
            go_roundw
            case rel => exact ⟨k + 1, zs, by omega, by omega, by go_num, by rw [Hid, hI.out, Hs.out, Hf.out, if_neg (by simp)], hS⟩
            case measure => simp [intOf]; omega
        · go_wp2_with fail
          go_ret
          refine ⟨_, rfl, ?_⟩
          rw [hI.out, show 32 - k = 0 by omega]
          simp only [upF, List.append_nil]
          exact hS
    · have h2' : incB (-1) 32 ys = false := by simpa [IsSet] using h2
      go_enter Try.func89, Try.ntmps89
      go_wp2_with fail
      refine (ValidSet_c va xs 32 w ha).mono ?_
      rw [vx, h1']
      rintro e w1 ⟨rfl, rfl⟩
      go_wp2_with fail
      refine (ValidSet_c vb ys 32 w hb).mono ?_
      rw [vy, h2']
      rintro e w1 ⟨rfl, rfl⟩
      go_wp2_with fail
      go_ret
      exact ⟨_, rfl, by rw [filtR, if_neg (fun h => h2 h.2)]; exact (St.refl w).emp⟩
  · have h1' : incB (-1) 32 xs = false := by simpa [IsSet] using h1
    go_enter Try.func89, Try.ntmps89
    go_wp2_with fail
    refine (ValidSet_c va xs 32 w ha).mono ?_
    rw [vx, h1']
    rintro e w1 ⟨rfl, rfl⟩
    go_wp2_with fail
    go_ret
    exact ⟨_, rfl, by rw [filtR, if_neg (fun h => h1 h.1)]; exact (St.refl w).emp⟩
end Go.Proofs.Ytonmggppfopidaa
