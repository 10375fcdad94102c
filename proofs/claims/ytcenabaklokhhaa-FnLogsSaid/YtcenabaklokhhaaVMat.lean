/- Walks: valid matrices. -/
import Derived.Test.YtcenabaklokhhaaFld5
namespace Go.Proofs.Ytcenabaklokhhaa
set_option linter.unusedSimpArgs false
set_option linter.unusedVariables false
open Go.RowKit
attribute [local go_sem ↓] Go.wp_at_zero Go.wp_at_succ

/-! slices.ContainsFunc on rows -/
def anyR (p : List Int → Bool) (xss : List (List Int)) : Bool := xss.any p
def idxR (p : List Int → Bool) (xss : List (List Int)) (k : Nat) : Int := match (xss.drop k).findIdx? p with | some j => (k + j : Nat) | none => -1
theorem idxR_step {p : List Int → Bool} {xs : List (List Int)} {k : Nat} (hk : k < xs.length) (h : p (xat xs k) = false) : idxR p xs k = idxR p xs (k + 1) := by
  unfold idxR
  rw [drop_xat hk, List.findIdx?_cons, h]
  cases (xs.drop (k + 1)).findIdx? p with
  | none => rfl
  | some j => simp; omega
theorem idxR_hit {p : List Int → Bool} {xs : List (List Int)} {k : Nat} (hk : k < xs.length) (h : p (xat xs k) = true) : idxR p xs k = k := by
  unfold idxR; rw [drop_xat hk, List.findIdx?_cons, h]; simp
theorem idxR_end {p : List Int → Bool} {xs : List (List Int)} {k : Nat} (hk : xs.length ≤ k) : idxR p xs k = -1 := by
  unfold idxR; rw [List.drop_of_length_le hk]; rfl
theorem idxR_any {p : List Int → Bool} {xs : List (List Int)} : decide (0 ≤ idxR p xs 0) = anyR p xs := by
  unfold idxR anyR
  rw [List.drop_zero]
  cases h : xs.findIdx? p with
  | none =>
    have hy : xs.any p = false := by
      rw [List.any_eq_false]
      intro x hx
      have := List.findIdx?_eq_none_iff.1 h x hx
      simp [this]
    rw [hy]; simp
  | some j =>
    have hy : xs.any p = true := by
      obtain ⟨hj, hp, _⟩ := List.findIdx?_eq_some_iff_getElem.1 h
      exact List.any_eq_true.2 ⟨_, List.getElem_mem hj, hp⟩
    rw [hy]; simp

set_option maxHeartbeats 1000000 in
set_option maxRecDepth 100000 in
theorem IndexFuncR_c (K : FuncId) (caps : Array Value) (p : List Int → Bool) (v : Value) (us : List Value) (xss : List (List Int)) (w : World) (hv : RII w v us xss)
    (hcf : ∀ (args : Array Value) (W : World), (callFunc K args).run Try.prog W = .ok (.enter K args) W)
    (hK : ∀ (j : Nat) (W : World), St w.heap.size w W [] → j < xss.length → Calls Try.prog K (#[vat us j] ++ caps) W (GivesB W (p (xat xss j)))) :
    Calls Try.prog 189 #[v, .func (.func K) #[] caps] w (GivesI w (idxR p xss 0)) := by
  have HK := Lib.hid hK
  clear hK
  have hln := hv.len
  have hix := hv.ix
  have hm := hv.le
  go_enter Try.func189, Try.ntmps189
  go_wp2_with fail
  go_loopw [5, 8] (fun _ i wr => ∃ k : Nat, k ≤ xss.length ∧ i = .int .i64 k ∧ Hid (idxR p xss 0 = idxR p xss k) ∧ St w.heap.size w wr []) (fun _ i _ => xss.length - (intOf i).toNat)
  case atStart => exact ⟨0, by omega, rfl, rfl, St.refl w⟩
  case round =>
    obtain ⟨k, hk, rfl, hI, hS⟩ := hrel
    by_cases hlt : k < xss.length
    · have hc := (hS.oldII hv).cell k hlt
      go_wp2_with fail
      refine (HK.out _ _ hS hlt).mono ?_
      cases hp : p (xat xss k)
      · have Hp := Lib.hid hp; clear hp
        rintro e w2 ⟨rfl, h2⟩
        have hS2 := hS.call0 h2
        go_wp2_with fail
        go_roundw
        case rel => exact ⟨k + 1, by omega, by go_num, by rw [Hid, hI.out, idxR_step hlt Hp.out], hS2⟩
        case measure => simp [intOf]; omega
      · have Hp := Lib.hid hp; clear hp
        rintro e w2 ⟨rfl, h2⟩
        have hS2 := hS.call0 h2
        go_wp2_with fail
        go_ret
        exact ⟨ret_i64 (by rw [hI.out, idxR_hit hlt Hp.out]), hS2⟩
    · go_wp2_with fail
      go_ret
      exact ⟨ret_i64 (by rw [hI.out, idxR_end (by omega)]), hS⟩
theorem ContainsFuncR_c (K : FuncId) (caps : Array Value) (p : List Int → Bool) (v : Value) (us : List Value) (xss : List (List Int)) (w : World) (hv : RII w v us xss)
    (hcf : ∀ (args : Array Value) (W : World), (callFunc K args).run Try.prog W = .ok (.enter K args) W)
    (hK : ∀ (j : Nat) (W : World), St w.heap.size w W [] → j < xss.length → Calls Try.prog K (#[vat us j] ++ caps) W (GivesB W (p (xat xss j)))) :
    Calls Try.prog 186 #[v, .func (.func K) #[] caps] w (GivesB w (anyR p xss)) := by
  have HK := Lib.hid hK
  clear hK
  go_enter Try.func186, Try.ntmps186
  go_wp2_with fail
  refine (IndexFuncR_c K caps p v us xss w hv hcf HK.out).mono ?_
  rintro e w1 ⟨rfl, h1⟩
  go_wp2_with fail
  go_ret
  exact ⟨ret_bool idxR_any, h1⟩

/-! numbers that are elements -/
def vecOk (q : Int) (xs : List Int) : Bool := !anyP (fun x => !inB x 0 (q - 1)) xs
theorem areIn1_c (x q : Int) (g : Nat) (w : World) (hb : w.cell? ⟨g, 0, none⟩ = some (.int .i64 q)) (q0 : 0 ≤ q) (q1 : q ≤ 1000000) :
    Calls Try.prog 238 #[.int .i64 x, .pointer (some ⟨g, 0, none⟩)] w (GivesB w (!inB x 0 (q - 1))) := by
  go_enter Try.func238, Try.ntmps238
  go_wp2_with fail
  refine (within_c _ _ _ _).mono ?_
  rintro e w1 ⟨rfl, rfl⟩
  go_wp2_with fail
  go_ret
  exact ⟨rfl, St.refl w⟩
theorem areIn_c (q : Int) (v : Value) (xs : List Int) (w : World) (hv : RdI w v xs) (q0 : 0 ≤ q) (q1 : q ≤ 1000000) :
    Calls Try.prog 188 #[.int .i64 q, v] w (GivesB w (vecOk q xs)) := by
  have hS1 := (St.refl w).newboxF 2 #[.int .i64 q]
  have hcf := callFunc_go Try.func238 (by kernel_rfl) (by kernel_rfl)
  have hmf : ∀ (fn : Fn) (first cap : Array Value) (w : World), (Instr.makeFunc fn first cap).run Try.prog w = .ok (.func fn first cap) w := fun _ _ _ _ => rfl
  have hcall := Lib.hid (ContainsFunc_c 238 #[.pointer (some ⟨w.heap.size, 0, none⟩)] (fun x => !inB x 0 (q - 1)) v xs _ (hS1.oldI hv) hcf (fun x W hW _ => areIn1_c x q w.heap.size W (by
    rw [hW.below.cell (World.block_lt_of_cell? _ _ (hS1.bcell 0 rfl 0 rfl))]; exact hS1.bcell 0 rfl 0 rfl) q0 q1))
  clear hcf
  go_enter Try.func188, Try.ntmps188
  go_wp2_with fail
  refine hcall.out.mono ?_
  rintro e w1 ⟨rfl, h1⟩
  have hS2 := hS1.call0 h1
  go_wp2_with fail
  go_ret
  exact ⟨rfl, hS2.out⟩

theorem fieldSize_c (p d : Int) (v : Value) (xs : List Int) (w : World) (hf : FV p d xs) : Calls Try.prog 114 #[fv p d v] w (GivesI w (p ^ d.toNat)) := by
  have hS1 := (St.refl w).newboxF 25 #[.int .i64 p, .int .i64 d, v]
  have p2 := hf.p2
  have p64 := hf.p64
  have d1 := hf.d1
  have d6 := hf.d6
  have hpow : ∀ W, Hid (Calls Try.prog 135 #[.int .i64 p, .int .i64 d, .int .i64 64] W fun r w' => r = .returned (.int .i64 (p ^ d.toNat)) ∧ W = w') := fun W => by
    have := powerUpTo_c p d 64 W (by omega) (by omega) (by omega) (by omega) (by omega) (by omega)
    rw [pu_le (by omega) d.toNat 1 (by omega) (by rw [Int.one_mul]; exact hf.q), Int.one_mul] at this
    exact this
  unfold fv
  go_enter Try.func114, Try.ntmps114
  go_wp2_with fail
  refine (hpow _).out.mono ?_
  rintro e w1 ⟨rfl, rfl⟩
  go_wp2_with fail
  go_ret
  exact ⟨rfl, hS1.out⟩
theorem l03Size_c (p d : Int) (g : Nat) (v : Value) (xs : List Int) (w : World) (hb : BoxF w g p d v) (hf : FV p d xs) : Calls Try.prog 112 #[.pointer (some ⟨g, 0, none⟩)] w (GivesI w (p ^ d.toNat)) := by
  have hS0 := St.refl w
  have q0 := fun s : SS w.heap.size w [] => (s.st.oldF hb).1
  have q1 := fun s : SS w.heap.size w [] => (s.st.oldF hb).2.1
  have p2 := hf.p2
  have p64 := hf.p64
  have d6 := hf.d6
  have d1 := hf.d1
  obtain ⟨D, rfl⟩ := Int.eq_ofNat_of_zero_le (show 0 ≤ d by omega)
  rw [Int.toNat_natCast]
  go_enter Try.func112, Try.ntmps112
  go_wp2_with fail
  have hne : Nonempty (SS _ _ _) := ⟨⟨_, hS0⟩⟩
  refine wp_region_st (by kernel_rfl) (by kernel_rfl) hS0 ?_
  repeat (go_big_quiet_step ((go_at_call 199; exact st_quiet0 (l03Power_c p D _ (by omega) p64 (by omega)))))
  refine wpQuiet_nil ?_
  rintro _ ⟨s2, rfl⟩
  have hS3 := s2.st
  generalize s2.w = w3 at hS3 ⊢
  go_wp2_with fail
  go_ret
  exact ⟨rfl, hS3⟩

theorem vecOk_no {q : Int} {xs : List Int} {k : Nat} (hk : k < xs.length) (h : inB (nth xs k) 0 (q - 1) = false) : vecOk q xs = false := by
  simp only [vecOk, anyP, Bool.not_eq_false', List.any_eq_true, Bool.not_eq_true']
  exact ⟨_, nth_mem hk, h⟩
theorem vecOk_yes {q : Int} {xs : List Int} (h : ∀ k, k < xs.length → inB (nth xs k) 0 (q - 1) = true) : vecOk q xs = true := by
  simp only [vecOk, anyP, Bool.not_eq_true', List.any_eq_false, Bool.not_eq_true]
  intro x hx
  obtain ⟨k, hk, rfl⟩ := List.getElem_of_mem hx
  have := h k hk
  rw [nth_eq hk] at this
  rw [this]; simp
end Go.Proofs.Ytcenabaklokhhaa
