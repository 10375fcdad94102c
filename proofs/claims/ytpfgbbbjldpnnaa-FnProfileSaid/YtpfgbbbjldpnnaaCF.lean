/- Walks: slices.IndexFunc and slices.ContainsFunc on integers, for any function that only answers. -/
import Derived.Test.YtpfgbbbjldpnnaaInt
namespace Go.Proofs.Ytpfgbbbjldpnnaa
set_option linter.unusedSimpArgs false
set_option linter.unusedVariables false
open Go.RowKit

/-- the first place from k on at which p holds, or -1 -/
def idxP (p : Int → Bool) (xs : List Int) (k : Nat) : Int := match (xs.drop k).findIdx? p with | some j => (k + j : Nat) | none => -1
def anyP (p : Int → Bool) (xs : List Int) : Bool := xs.any p

theorem idxP_step {p : Int → Bool} {xs : List Int} {k : Nat} (hk : k < xs.length) (h : p (nth xs k) = false) : idxP p xs k = idxP p xs (k + 1) := by
  rw [idxP, drop_nth hk, List.findIdx?_cons, h]
  simp only [idxP]
  cases (xs.drop (k + 1)).findIdx? p <;> simp <;> omega
theorem idxP_hit {p : Int → Bool} {xs : List Int} {k : Nat} (hk : k < xs.length) (h : p (nth xs k) = true) : idxP p xs k = k := by
  rw [idxP, drop_nth hk, List.findIdx?_cons, h]; simp
theorem idxP_end {p : Int → Bool} {xs : List Int} {k : Nat} (hk : xs.length ≤ k) : idxP p xs k = -1 := by
  rw [idxP, List.drop_of_length_le hk]; rfl
theorem idxP_any {p : Int → Bool} {xs : List Int} : decide (0 ≤ idxP p xs 0) = anyP p xs := by
  unfold idxP anyP
  rw [List.drop_zero]
  cases h : xs.findIdx? p with
  | none =>
    have hn : xs.any p = false := by
      rw [Bool.eq_false_iff]; intro hc
      obtain ⟨x, hx, hp⟩ := List.any_eq_true.1 hc
      have := List.findIdx?_eq_none_iff.1 h x hx
      rw [this] at hp; cases hp
    rw [hn]; simp
  | some j =>
    have hy : xs.any p = true := by
      obtain ⟨hj, hp, _⟩ := List.findIdx?_eq_some_iff_getElem.1 h
      exact List.any_eq_true.2 ⟨_, List.getElem_mem hj, hp⟩
    rw [hy]; simp

set_option maxHeartbeats 1000000 in
theorem IndexFunc_c (K : FuncId) (caps : Array Value) (p : Int → Bool) (v : Value) (xs : List Int) (w : World) (hv : RdI w v xs)
    (hcf : ∀ (args : Array Value) (W : World), (callFunc K args).run Try.prog W = .ok (.enter K args) W)
    (hK : ∀ (x : Int) (W : World), St w.heap.size w W [] → x ∈ xs → Calls Try.prog K (#[.int .i64 x] ++ caps) W (GivesB W (p x))) :
    Calls Try.prog 149 #[v, .func (.func K) #[] caps] w (GivesI w (idxP p xs 0)) := by
  have HK := Lib.hid hK
  clear hK
  have hln := hv.len
  have hix := hv.ix
  have hm := hv.le
  go_enter Try.func149, Try.ntmps149
  go_wp2_with fail
  go_loopw [5, 8] (fun _ i wr => ∃ k : Nat, k ≤ xs.length ∧ i = .int .i64 k ∧ Hid (idxP p xs 0 = idxP p xs k) ∧ St w.heap.size w wr []) (fun _ i _ => xs.length - (intOf i).toNat)
  case atStart => exact ⟨0, by omega, rfl, rfl, St.refl w⟩
  case round =>
    obtain ⟨k, hk, rfl, hI, hS⟩ := hrel
    by_cases hlt : k < xs.length
    · have hc := (hS.oldI hv).cell k hlt
      go_wp2_with fail
      refine (HK.out _ _ hS (nth_mem hlt)).mono ?_
      cases hp : p (nth xs k)
      · have Hp := Lib.hid hp; clear hp
        rintro e w2 ⟨rfl, h2⟩
        have hS2 := hS.call0 h2
        go_wp2_with fail
        go_roundw
        case rel => exact ⟨k + 1, by omega, by go_num, by rw [Hid, hI.out, idxP_step hlt Hp.out], hS2⟩
        case measure => simp [intOf]; omega
      · have Hp := Lib.hid hp; clear hp
        rintro e w2 ⟨rfl, h2⟩
        have hS2 := hS.call0 h2
        go_wp2_with fail
        go_ret
        exact ⟨ret_i64 (by rw [hI.out, idxP_hit hlt Hp.out]), hS2⟩
    · go_wp2_with fail
      go_ret
      exact ⟨ret_i64 (by rw [hI.out, idxP_end (by omega)]), hS⟩

theorem ContainsFunc_c (K : FuncId) (caps : Array Value) (p : Int → Bool) (v : Value) (xs : List Int) (w : World) (hv : RdI w v xs)
    (hcf : ∀ (args : Array Value) (W : World), (callFunc K args).run Try.prog W = .ok (.enter K args) W)
    (hK : ∀ (x : Int) (W : World), St w.heap.size w W [] → x ∈ xs → Calls Try.prog K (#[.int .i64 x] ++ caps) W (GivesB W (p x))) :
    Calls Try.prog 127 #[v, .func (.func K) #[] caps] w (GivesB w (anyP p xs)) := by
  have HK := Lib.hid hK
  clear hK
  go_enter Try.func127, Try.ntmps127
  go_wp2_with fail
  refine (IndexFunc_c K caps p v xs w hv hcf HK.out).mono ?_
  rintro e w1 ⟨rfl, h1⟩
  go_wp2_with fail
  go_ret
  exact ⟨ret_bool idxP_any, h1⟩
end Go.Proofs.Ytpfgbbbjldpnnaa
