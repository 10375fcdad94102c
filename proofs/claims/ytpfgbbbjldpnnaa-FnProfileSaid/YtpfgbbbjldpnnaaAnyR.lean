/- Walks: slices.ContainsFunc on rows of integers. -/
import Derived.Test.YtpfgbbbjldpnnaaNum
import Derived.Test.YtpfgbbbjldpnnaaII
namespace Go.Proofs.Ytpfgbbbjldpnnaa
set_option linter.unusedSimpArgs false
set_option linter.unusedVariables false
open Go.RowKit

/-! slices.ContainsFunc on rows -/
def anyR (p : List Int → Bool) (xss : List (List Int)) : Bool := xss.any p
def idxR (p : List Int → Bool) (xss : List (List Int)) (k : Nat) : Int := match (xss.drop k).findIdx? p with | some j => (k + j : Nat) | none => -1
theorem idxR_step {p : List Int → Bool} {xs : List (List Int)} {k : Nat} (hk : k < xs.length) (h : p (xat xs k) = false) : idxR p xs k = idxR p xs (k + 1) := by
  unfold idxR
  rw [drop_xat hk, List.findIdx?_cons, h]
  cases (xs.drop (k + 1)).findIdx? p with
  | none => rfl
  | some j => simp; omega
theorem idxR_hit {p : List Int → Bool} {xs : List (List Int)} {k : Nat} (hk : k < xs.length) (h : p (xat xs k) = true) : idxR p xs k = k := by
  unfold idxR; rw [drop_xat hk, List.findIdx?_cons, h]; simp
theorem idxR_end {p : List Int → Bool} {xs : List (List Int)} {k : Nat} (hk : xs.length ≤ k) : idxR p xs k = -1 := by
  unfold idxR; rw [List.drop_of_length_le hk]; rfl
theorem idxR_any {p : List Int → Bool} {xs : List (List Int)} : decide (0 ≤ idxR p xs 0) = anyR p xs := by
  unfold idxR anyR
  rw [List.drop_zero]
  cases h : xs.findIdx? p with
  | none =>
    have hy : xs.any p = false := by
      rw [List.any_eq_false]
      intro x hx
      have := List.findIdx?_eq_none_iff.1 h x hx
      simp [this]
    rw [hy]; simp
  | some j =>
    have hy : xs.any p = true := by
      obtain ⟨hj, hp, _⟩ := List.findIdx?_eq_some_iff_getElem.1 h
      exact List.any_eq_true.2 ⟨_, List.getElem_mem hj, hp⟩
    rw [hy]; simp

set_option maxHeartbeats 1000000 in
set_option maxRecDepth 100000 in
theorem IndexFuncR_c (K : FuncId) (caps : Array Value) (p : List Int → Bool) (v : Value) (us : List Value) (xss : List (List Int)) (w : World) (hv : RII w v us xss)
    (hcf : ∀ (args : Array Value) (W : World), (callFunc K args).run Try.prog W = .ok (.enter K args) W)
    (hK : ∀ (j : Nat) (W : World), St w.heap.size w W [] → j < xss.length → Calls Try.prog K (#[vat us j] ++ caps) W (GivesB W (p (xat xss j)))) :
    Calls Try.prog 138 #[v, .func (.func K) #[] caps] w (GivesI w (idxR p xss 0)) := by
  have HK := Lib.hid hK
  clear hK
  have hln := hv.len
  have hix := hv.ix
  have hm := hv.le
  go_enter Try.func138, Try.ntmps138
  go_wp2_with fail
  go_loopw [5, 8] (fun _ i wr => ∃ k : Nat, k ≤ xss.length ∧ i = .int .i64 k ∧ Hid (idxR p xss 0 = idxR p xss k) ∧ St w.heap.size w wr []) (fun _ i _ => xss.length - (intOf i).toNat)
  case atStart => exact ⟨0, by omega, rfl, rfl, St.refl w⟩
  case round =>
    obtain ⟨k, hk, rfl, hI, hS⟩ := hrel
    by_cases hlt : k < xss.length
    · have hc := (hS.oldII hv).cell k hlt
      go_wp2_with fail
      refine (HK.out _ _ hS hlt).mono ?_
      cases hp : p (xat xss k)
      · have Hp := Lib.hid hp; clear hp
        rintro e w2 ⟨rfl, h2⟩
        have hS2 := hS.call0 h2
        go_wp2_with fail
        go_roundw
        case rel => exact ⟨k + 1, by omega, by go_num, by rw [Hid, hI.out, idxR_step hlt Hp.out], hS2⟩
        case measure => simp [intOf]; omega
      · have Hp := Lib.hid hp; clear hp
        rintro e w2 ⟨rfl, h2⟩
        have hS2 := hS.call0 h2
        go_wp2_with fail
        go_ret
        exact ⟨ret_i64 (by rw [hI.out, idxR_hit hlt Hp.out]), hS2⟩
    · go_wp2_with fail
      go_ret
      exact ⟨ret_i64 (by rw [hI.out, idxR_end (by omega)]), hS⟩
theorem ContainsFuncR_c (K : FuncId) (caps : Array Value) (p : List Int → Bool) (v : Value) (us : List Value) (xss : List (List Int)) (w : World) (hv : RII w v us xss)
    (hcf : ∀ (args : Array Value) (W : World), (callFunc K args).run Try.prog W = .ok (.enter K args) W)
    (hK : ∀ (j : Nat) (W : World), St w.heap.size w W [] → j < xss.length → Calls Try.prog K (#[vat us j] ++ caps) W (GivesB W (p (xat xss j)))) :
    Calls Try.prog 108 #[v, .func (.func K) #[] caps] w (GivesB w (anyR p xss)) := by
  have HK := Lib.hid hK
  clear hK
  go_enter Try.func108, Try.ntmps108
  go_wp2_with fail
  refine (IndexFuncR_c K caps p v us xss w hv hcf HK.out).mono ?_
  rintro e w1 ⟨rfl, h1⟩
  go_wp2_with fail
  go_ret
  exact ⟨ret_bool idxR_any, h1⟩

theorem szII_c (v : Value) (us : List Value) (xss : List (List Int)) (w : World) (hv : RII w v us xss) :
    Calls Try.prog 74 #[v] w fun e w' => e = .returned (.int .i64 xss.length) ∧ w = w' := by
  have hln := hv.len
  go_enter Try.func74, Try.ntmps74
  go_wp2_with fail
  go_ret
  exact ⟨rfl, rfl⟩
end Go.Proofs.Ytpfgbbbjldpnnaa
