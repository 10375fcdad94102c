/- slices.Delete at []int64: a row that a call owns, without one of its numbers. Walks: images of sets, ranks of permutations. -/
import Derived.Test.YtpfgbbbjldpnnaaInt
import Derived.Shelf.SlicesG.Delete
import Derived.Sort.OwnSortedInts
import Derived.Test.YtpfgbbbjldpnnaaPIm
import Derived.Test.YtpfgbbbjldpnnaaPm6
import Derived.Test.YtpfgbbbjldpnnaaVs
namespace Go.Proofs.Ytpfgbbbjldpnnaa
set_option linter.unusedSimpArgs false
set_option linter.unusedVariables false
open Go.RowKit
attribute [local go_sem ↓] Go.wp_at_zero Go.wp_at_succ


def Try.mDelete_ren : Go.Shelf.Ren := ⟨fun | 45 => 69 | n => n, fun | 22 => 24 | 23 => 2 | 3 => 3 | 4 => 4 | 0 => 0 | n => n, fun | n => n⟩
theorem Try.mDelete : Go.Proofs.SlLaysN.n45 Try.prog Try.mDelete_ren := {
  mixed := by kernel_rfl
  f45 := ⟨Try.f69.name, by decide, Try.func69.trans (congrArg some (by kernel_rfl))⟩
  t0 := Try.underlying0
  a0 := Try.isAgg0
  z0 := Try.sizeOf0
  v0 := Try.zeroValue0
  t3 := Try.underlying3
  a3 := Try.isAgg3
  z3 := Try.sizeOf3
  v3 := Try.zeroValue3
  t4 := Try.underlying4
  a4 := Try.isAgg4
  z4 := Try.sizeOf4
  v4 := Try.zeroValue4
  t22 := Try.underlying24
  a22 := Try.isAgg24
  z22 := Try.sizeOf24
  v22 := Try.zeroValue24
  t23 := Try.underlying2
  a23 := Try.isAgg2
  z23 := Try.sizeOf2
  v23 := Try.zeroValue2
  i23 := by kernel_rfl
  }

theorem dl_grow (w : World) : Go.Sort.grow w #[] = w := by simp [Go.Sort.grow]
theorem Delete_c {B : Nat} {w0 w : World} {L : List Ent} (hS : St B w0 w L) (i : Nat) {v : Value} {xs : List Int} (hi : L[i]? = some (row 2 v (iv xs))) (hl : xs.length < 4611686018427387904) (k : Nat) (hk : k < xs.length) :
    Calls Try.prog 69 #[v, .int .i64 k, .int .i64 ((k : Int) + 1)] w fun e w' => ∃ v', e = .returned v' ∧ St B w0 w' (L.set i (row 2 v' (iv (xs.take k ++ xs.drop (k + 1))))) := by
  have hx := hS.ok _ (List.mem_of_getElem? hi)
  rcases hx with ⟨hp, _⟩ | ⟨_, hv, hu⟩ | ⟨_, g, cap, cur, hv, hB, hh, h1, h2, h3, h4⟩
  · simp [row] at hp
  · simp only [row] at hv hu
    have hx : xs = [] := by cases xs with
      | nil => rfl
      | cons a r => simp [iv] at hu
    rw [hx] at hk; simp at hk
  · simp only [row] at hv h1 h4 hh
    rw [iv_len] at hv h1 h4
    have hblk : g < w.heap.size := (Array.getElem?_eq_some_iff.1 hh).1
    have hH : Go.Sort.Holds (Value.int .i64) w g 0 xs.toArray := holds_of_blockI hh h4
    have hc := AnyG.slices_Delete_int Try.mDelete g 0 cap k (k + 1) xs w hH (by omega) (by unfold maxLen at h2; omega) (by omega) (by omega)
    rw [show ((k + 1 : Nat) : Int) = (k : Int) + 1 by omega, show k + 1 - k = 1 by omega] at hc
    subst hv
    refine Calls.mono hc ?_
    rintro e w' ⟨rfl, q, rfl⟩
    refine ⟨_, rfl, ?_⟩
    have key : ∀ (W : World) (L' : List Ent), St B w0 (Go.Sort.grow W #[]) L' → St B w0 W L' := fun W L' h => by rwa [dl_grow] at h
    refine key _ _ ?_
    clear key
    obtain ⟨ys, hys⟩ : ∃ ys, ys = xs.take k ++ xs.drop (k + 1) := ⟨_, rfl⟩
    have hyl : ys.length + 1 = xs.length := by rw [hys]; simp; omega
    rw [← hys]
    have hrep : List.replicate 1 (0 : Int) = [0] := rfl
    rw [hrep, show xs.length - 1 = ys.length by omega]
    have hlen : (ys ++ [(0 : Int)]).length = xs.length := by simp; omega
    refine hS.put i hi ?_ (row 2 (.slice (some ⟨g, 0, none⟩) ys.length cap) (iv ys)) (.inr (.inr ⟨rfl, g, cap, _, ?_, hB, heap_sortedI _ hh, ?_, h2, ?_, ?_⟩)) (.inl rfl)
    · exact grownBy_sortedI _
    · simp [row, iv_len]
    · simp [row, iv_len]; omega
    · simp [Go.Sort.putCells, h3]
    · have := take_putCellsI cur (ys ++ [(0 : Int)]) (by omega)
      rw [hlen] at this
      have h5 := congrArg (List.take ys.length) this
      have e5 : List.take ys.length (List.map (Value.int .i64) (ys ++ [(0 : Int)])) = List.map (Value.int .i64) ys := by rw [List.map_append, List.take_left' (by simp)]
      rw [List.take_take, Nat.min_eq_left (by omega), e5] at h5
      simpa [row, iv] using h5


theorem incB_len : ∀ {xs : List Int} {l n : Int}, incB l n xs = true → l < n → (xs.length : Int) ≤ n - l - 1
  | [], l, n, _, h => by simp; omega
  | x :: t, l, n, h, hl => by
    unfold incB at h; split at h
    · simp at h
    · have := incB_len h (by omega)
      simp; omega
theorem fctl_succ (n : Nat) : fctl (n + 1) = (n + 1) * fctl n := rfl
set_option maxHeartbeats 4000000 in
set_option maxRecDepth 100000 in
theorem image_c (v u : Value) (xs ss : List Int) (w : World) (hv : RdI w v xs) (hu : RdI w u ss) (hs : incB (-1) xs.length ss = true) (hN : xs.length ≤ 1000) :
    Calls Try.prog 61 #[v, u] w (MakesI w (imL xs ss)) := by
  have hlu := hu.len
  have hiu := hu.ix
  have hix := hv.ix
  have hsl := incB_len hs (by omega)
  have HM := Lib.hid (fun x hx => incB_gt hs x hx)
  have HS := fun {B : Nat} {w0 w : World} {L : List Ent} (hS : St B w0 w L) (i : Nat) {v : Value} {ys : List Int} (hl : ys.length = ss.length) (hi : L[i]? = some (row 2 v (iv ys))) => Lib.hid (Sort_c hS i hi (by omega))
  have HF := Lib.hid (show imL xs ss = srt (ss.map fun x => nth xs x.toNat) from rfl)
  generalize hf : (fun x : Int => nth xs x.toNat) = f at *
  have Hf := Lib.hid (fun x => congrFun hf x)
  clear hf hs
  generalize imL xs ss = R at *
  go_enter Try.func61, Try.ntmps61
  go_wp2_with fail
  go_loopw [5, 7, 10] (fun o _ x wr => ∃ k : Nat, k ≤ ss.length ∧ x = .int .i64 k ∧ St w.heap.size w wr [row 2 o (iv ((ss.take k).map f))]) (fun _ _ x _ => ss.length - (intOf x).toNat)
  case atStart => exact ⟨0, by omega, rfl, (St.refl w).emp⟩
  case round =>
    obtain ⟨k, hk, rfl, hS⟩ := hrel
    by_cases hlt : k < ss.length
    · have hck := (hS.oldI hu).cell k hlt
      have hm := HM.out _ (nth_mem hlt)
      have hcx := (hS.oldI hv).cell (nth ss k).toNat (by omega)
      rw [Hf.out] at hcx
      have Hst := Lib.hid (show (ss.take (k + 1)).map f = (ss.take k).map f ++ [f (nth ss k)] by rw [take_nth hlt]; simp)
      have Hlt := Lib.hid (show ((ss.take k).map f).length < 4294967296 by simp; omega)
      generalize f (nth ss k) = y at *
      generalize nth ss k = x at *
      obtain ⟨m0, m1⟩ := hm
      have hixx := hix .i64 x (by omega) m1
      go_wp2_with (at_builtin; refine appI hS 0 rfl Hlt.out rfl _ _ rfl rfl _ rfl ?_; intro v' w2 hS2)
      simp only [List.set_cons_zero] at hS2
      rw [← Hst.out] at hS2
      go_roundw
      case rel => exact ⟨k + 1, by omega, by go_num, hS2⟩
      case measure => simp [intOf]; omega
    · obtain rfl : k = ss.length := by omega
      rw [List.take_length] at hS
      go_wp2_with fail
      refine (HS hS 0 (by simp) rfl).out.mono ?_
      rintro e w2 ⟨rfl, hS2⟩
      rw [← HF.out] at hS2
      simp only [List.set_cons_zero] at hS2
      go_wp2_with fail
      go_ret
      exact ⟨_, rfl, hS2⟩
noncomputable def apC (xs ss : List Int) : Int := if pvB xs = true then (if incB (-1) xs.length ss = true then 0 else 2) else 1
noncomputable def apV (xs ss : List Int) : List Int := if apC xs ss = 0 then imL xs ss else []
theorem apC_0 {xs ss : List Int} (h1 : pvB xs = true) (h2 : incB (-1) xs.length ss = true) : apC xs ss = 0 ∧ apV xs ss = imL xs ss := by
  have : apC xs ss = 0 := by unfold apC; rw [if_pos h1, if_pos h2]
  exact ⟨this, by unfold apV; rw [if_pos this]⟩
theorem apC_2 {xs ss : List Int} (h1 : pvB xs = true) (h2 : incB (-1) xs.length ss = false) : apC xs ss = 2 ∧ apV xs ss = [] := by
  have : apC xs ss = 2 := by unfold apC; rw [if_pos h1, if_neg (by rw [h2]; decide)]
  exact ⟨this, by unfold apV; rw [if_neg (by rw [this]; decide)]⟩
theorem apC_1 {xs ss : List Int} (h1 : pvB xs = false) : apC xs ss = 1 ∧ apV xs ss = [] := by
  have : apC xs ss = 1 := by unfold apC; rw [if_neg (by rw [h1]; decide)]
  exact ⟨this, by unfold apV; rw [if_neg (by rw [this]; decide)]⟩
set_option maxHeartbeats 4000000 in
set_option maxRecDepth 100000 in
theorem ApplySet_c (v u : Value) (xs ss : List Int) (w : World) (hv : RdI w v xs) (hu : RdI w u ss) (hx : xs.length ≤ 1048576) :
    Calls Try.prog 11 #[v, u] w (MakesLK w (apV xs ss) (apC xs ss)) := by
  have hlx := hv.len
  have HX := Lib.hid (ValidPermutation_c v xs w hv hx)
  have HZ := fun W (h : RdI W v xs) => Lib.hid (sz_c v xs W h)
  have HY := fun W (h : RdI W u ss) => Lib.hid (ValidSet_c u ss xs.length W h)
  cases h1 : pvB xs
  · have H := apC_1 (ss := ss) h1
    rw [h1] at HX
    rw [H.1, H.2]
    clear h1 H
    go_enter Try.func11, Try.ntmps11
    go_wp2_with fail
    refine HX.out.mono ?_
    rintro e w1 ⟨rfl, hS1⟩
    go_wp2_with fail
    go_ret2
    exact ⟨_, rfl, hS1.nilI⟩
  · rw [h1] at HX
    have h32 := (pvB_t h1).1
    have e1 : validSetB ss xs.length = incB (-1) xs.length ss := by unfold validSetB; rw [inB_true ⟨by omega, by omega⟩, Bool.and_true]
    rw [e1] at HY
    clear e1
    cases h2 : incB (-1) xs.length ss
    · have H := apC_2 h1 h2
      rw [h2] at HY
      rw [H.1, H.2]
      clear h1 h2 H
      go_enter Try.func11, Try.ntmps11
      go_wp2_with fail
      refine HX.out.mono ?_
      rintro e w1 ⟨rfl, hS1⟩
      go_wp2_with (first
        | (go_at_call 59; refine (HY _ (hS1.oldI hu)).out.mono ?_; rintro e w3 ⟨rfl, rfl⟩)
        | (go_at_call 60; refine (HZ _ (hS1.oldI hv)).out.mono ?_; rintro e w2 ⟨rfl, rfl⟩))
      go_ret2
      exact ⟨_, rfl, hS1.nilI⟩
    · have H := apC_0 h1 h2
      have HI := fun W (hv : RdI W v xs) (hu : RdI W u ss) => Lib.hid (image_c v u xs ss W hv hu h2 (by omega))
      rw [h2] at HY
      rw [H.1, H.2]
      clear h1 h2 H
      go_enter Try.func11, Try.ntmps11
      go_wp2_with fail
      refine HX.out.mono ?_
      rintro e w1 ⟨rfl, hS1⟩
      go_wp2_with (first
        | (go_at_call 61; refine (HI _ (hS1.oldI hv) (hS1.oldI hu)).out.mono ?_; rintro e w4 ⟨r, rfl, h4⟩; have hS4 := hS1.call h4)
        | (go_at_call 59; refine (HY _ (hS1.oldI hu)).out.mono ?_; rintro e w3 ⟨rfl, rfl⟩)
        | (go_at_call 60; refine (HZ _ (hS1.oldI hv)).out.mono ?_; rintro e w2 ⟨rfl, rfl⟩))
      go_ret2
      exact ⟨_, rfl, hS4⟩
set_option maxHeartbeats 4000000 in
set_option maxRecDepth 100000 in
theorem factorial_c (n : Nat) (w : World) (hn : n ≤ 12) : Calls Try.prog 66 #[.int .i64 n] w fun e w' => e = .returned (.int .i64 (fctl n : Nat)) ∧ w = w' := by
  have H1 := Lib.hid (show n ≤ 1 → fctl n = 1 by intro h; rcases n with _ | _ | n <;> first | rfl | omega)
  have H0 := Lib.hid (show fctl 1 = 1 from rfl)
  have HS := fun j => Lib.hid (fctl_succ j)
  have HB := fun j (h : j ≤ 12) => Lib.hid (fctl_12 h)
  generalize fctl = f at *
  go_enter Try.func66, Try.ntmps66
  go_wp2_with fail
  go_loop [3, 4] (fun q k => ∃ j F : Nat, 1 ≤ j ∧ (j ≤ n ∨ j = 1) ∧ k = .int .i64 ((j : Int) + 1) ∧ Hid (F = f j) ∧ q = .int .i64 (F : Nat)) (fun _ k => n + 1 - (intOf k).toNat)
  case atStart => exact ⟨1, 1, by omega, by omega, rfl, H0.out.symm, rfl⟩
  case round =>
    obtain ⟨j, F, h1, hj, rfl, hF, rfl⟩ := hrel
    by_cases hlt : j + 1 ≤ n
    · obtain ⟨P, hP⟩ : ∃ P, P = f (j + 1) := ⟨_, rfl⟩
      have hb := (HB (j + 1) (by omega)).out
      rw [← hP] at hb
      have hm : (F : Int) * ((j : Int) + 1) = (P : Int) := by rw [hP, (HS j).out, hF.out, Int.natCast_mul, Int.mul_comm]; rfl
      have HP := Lib.hid hP
      clear hP
      go_wp2_with fail
      go_round
      case rel => exact ⟨j + 1, P, by omega, by omega, by go_num, HP.out, rfl⟩
      case measure => simp [intOf]; omega
    · have He := Lib.hid (show F = f n by
        rcases hj with h | h
        · rw [hF.out, show j = n by omega]
        · subst h; rw [hF.out, H0.out, H1.out (by omega)])
      obtain rfl := He.out
      go_wp2_with fail
      go_ret
      exact ⟨rfl, rfl⟩
theorem low_tot {xs : List Int} {i : Nat} (h : i < xs.length) : lowN (nth xs i) (xs.drop (i + 1)) * fctl (xs.length - 1 - i) ≤ fctl xs.length := by
  have h1 := rkL_drop h
  have h2 := rkL_lt (xs.drop i)
  rw [List.length_drop] at h2
  have h3 := fctl_mono (show xs.length - i ≤ xs.length by omega)
  omega
set_option maxHeartbeats 4000000 in
set_option maxRecDepth 100000 in
theorem Rank_yes (v : Value) (xs : List Int) (w : World) (hv : RdI w v xs) (hp : pvB xs = true) (h12 : xs.length ≤ 12) : Calls Try.prog 17 #[v] w (Gives2I w (rkL xs : Nat) 0) := by
  have hln := hv.len
  have hix := hv.ix
  have HX := Lib.hid (ValidPermutation_c v xs w hv (by omega))
  rw [hp] at HX
  have HZ := fun W (h : RdI W v xs) => Lib.hid (sz_c v xs W h)
  have HF := fun (m : Nat) W (h : m ≤ 12) => Lib.hid (factorial_c m W h)
  have HR := Lib.hid (show 0 + rkL (xs.drop 0) = rkL xs by simp)
  have HE := Lib.hid (show rkL (xs.drop xs.length) = 0 by rw [List.drop_of_length_le (Nat.le_refl _)]; rfl)
  have HD := fun k (h : k < xs.length) => Lib.hid (rkL_drop h)
  have HT := fun k (h : k < xs.length) => Lib.hid (low_tot h)
  have hB := Nat.lt_of_lt_of_le (rkL_lt xs) (fctl_12 h12)
  have HB := Lib.hid (fctl_12 h12)
  generalize rkL xs = R at *
  clear hp
  go_enter Try.func17, Try.ntmps17
  go_wp2_with fail
  refine HX.out.mono ?_
  rintro e w1 ⟨rfl, hS1⟩
  go_wp2_with fail
  go_loopw [4, 5, 6, 7, 9, 18, 28] (fun q _ _ _ _ i _ wr => ∃ k Q : Nat, k ≤ xs.length ∧ i = .int .i64 k ∧ q = .int .i64 Q ∧ Hid (Q + rkL (xs.drop k) = R) ∧ St w.heap.size w wr []) (fun _ _ _ _ _ i _ _ => xs.length - (intOf i).toNat)
  case atStart => exact ⟨0, 0, by omega, rfl, rfl, HR.out, hS1⟩
  case round =>
    clear hS1
    obtain ⟨k, Q, hk, rfl, rfl, hI, hS⟩ := hrel
    by_cases hlt : k < xs.length
    · have hck := (hS.oldI hv).cell k hlt
      have hsl := rsl_lo hv (k + 1) (by omega)
      rw [show ((k + 1 : Nat) : Int) = (k : Int) + 1 by omega] at hsl
      have hT := rsl_rd (hS.oldI hv) (lo := k + 1) (hi := xs.length) (by omega) (Nat.le_refl _)
      rw [List.take_length] at hT
      have hTl := hT.len
      have hTx := hT.ix
      have Hd := HD k hlt
      have Ht := HT k hlt
      have hQ : Q ≤ R := by have := hI.out; omega
      have Hlen := Lib.hid (show (xs.drop (k + 1)).length = xs.length - 1 - k by rw [List.length_drop]; omega)
      have Hlow := fun j (h : j < (xs.drop (k + 1)).length) => Lib.hid (lowN_take (x := nth xs k) (r := xs.drop (k + 1)) h)
      have Hall := Lib.hid (show (xs.drop (k + 1)).take (xs.drop (k + 1)).length = xs.drop (k + 1) from List.take_length)
      have Hz := Lib.hid (show lowN (nth xs k) ((xs.drop (k + 1)).take 0) = 0 from rfl)
      have Hle := fun j => Lib.hid (show lowN (nth xs k) ((xs.drop (k + 1)).take j) ≤ xs.length by
        have h1 := lowN_le (nth xs k) ((xs.drop (k + 1)).take j)
        rw [List.length_take, List.length_drop] at h1; omega)
      generalize hTT : xs.drop (k + 1) = T at *
      generalize rsl v (k + 1) xs.length = vt at *
      generalize nth xs k = x at *
      have hTlen : T.length ≤ 12 := by rw [Hlen.out]; omega
      go_wp2_with fail
      go_loopw [7, 9, 28] (fun l _ j wr' => ∃ m c : Nat, m ≤ T.length ∧ j = .int .i64 m ∧ l = .int .i64 c ∧ Hid (c = lowN x (T.take m)) ∧ wr' = wr) (fun _ _ j _ => T.length - (intOf j).toNat)
      case atStart => exact ⟨0, 0, by omega, rfl, rfl, Hz.out.symm, rfl⟩
      case round =>
        obtain ⟨m, c, hm, rfl, rfl, hc, rfl⟩ := hrel
        have hcle : c ≤ xs.length := by rw [hc.out]; exact (Hle m).out
        by_cases hml : m < T.length
        · have hcm := hT.cell m hml
          have Hs := Hlow m hml
          by_cases hyx : nth T m < x
          · rw [if_pos hyx] at Hs
            go_wp2_with fail
            go_roundw
            case rel => exact ⟨m + 1, c + 1, by omega, by go_num, by go_num, by unfold Hid; rw [hc.out, Hs.out], by trivial⟩
            case measure => simp [intOf]; omega
          · rw [if_neg hyx] at Hs
            go_wp2_with fail
            go_roundw
            case rel => exact ⟨m + 1, c, by omega, by go_num, rfl, by unfold Hid; rw [hc.out, Hs.out, Nat.add_zero], by trivial⟩
            case measure => simp [intOf]; omega
        · obtain rfl : m = T.length := by omega
          rw [Hall.out] at hc
          have Hf := fun W => HF (xs.length - 1 - k) W (by omega)
          obtain ⟨F, hF⟩ : ∃ F, F = fctl (xs.length - 1 - k) := ⟨_, rfl⟩
          rw [← hF] at Hf Ht Hd
          obtain ⟨P, hP⟩ : ∃ P, P = c * F := ⟨_, rfl⟩
          have hPle : P ≤ 479001600 := by have := Ht.out; rw [← hc.out, ← hP] at this; have := HB.out; omega
          have hcF : (c : Int) * (F : Int) = (P : Int) := by rw [hP]; rfl
          have hI' := Lib.hid (show Q + P + rkL T = R by have := hI.out; rw [Hd.out, ← hc.out, ← hP] at this; omega)
          rw [show ((xs.length - 1 - k : Nat) : Int) = (xs.length : Int) - 1 - k by omega] at Hf
          clear hc hF hP Ht Hd Hlow Hle
          go_wp2_with (first
            | (go_at_call 66; refine (Hf _).out.mono ?_; rintro e w3 ⟨rfl, rfl⟩)
            | (go_at_call 60; refine (HZ _ (hS.oldI hv)).out.mono ?_; rintro e w2 ⟨rfl, rfl⟩))
          go_roundw
          case rel => exact ⟨k + 1, Q + P, by omega, by go_num, by go_num, by rw [hTT]; exact hI'.out, hS⟩
          case measure => simp [intOf]; omega
    · obtain rfl : k = xs.length := by omega
      have He := Lib.hid (show Q = R by have := hI.out; rw [HE.out] at this; omega)
      go_wp2_with fail
      go_ret2
      exact ⟨ret_2i (by rw [He.out]) rfl, hS⟩
theorem Rank_no (v : Value) (xs : List Int) (w : World) (hv : RdI w v xs) (hp : pvB xs = true) (h12 : 12 < xs.length) : Calls Try.prog 17 #[v] w (Gives2I w 0 2) := by
  have hln := hv.len
  have h32 := (pvB_t hp).1
  have HX := Lib.hid (ValidPermutation_c v xs w hv (by omega))
  rw [hp] at HX
  clear hp
  go_enter Try.func17, Try.ntmps17
  go_wp2_with fail
  refine HX.out.mono ?_
  rintro e w1 ⟨rfl, hS1⟩
  go_wp2_with fail
  go_ret2
  exact ⟨rfl, hS1⟩
set_option maxHeartbeats 4000000 in
set_option maxRecDepth 100000 in
theorem Unrank_c (xs : List Int) (w : World) (hp : IsP xs) (h12 : xs.length ≤ 12) : Calls Try.prog 18 #[.int .i64 xs.length, .int .i64 (rkL xs : Nat)] w (MakesLK w xs 0) := by
  have hlt0 := rkL_lt xs
  have hB := fctl_12 h12
  have HF := fun (m : Nat) W (h : m ≤ 12) => Lib.hid (factorial_c m W h)
  have Hn := fun W => HF xs.length W h12
  have HI := fun W => Lib.hid (ident_c xs.length W (by omega))
  have Hpw := Lib.hid (iot_pw xs.length)
  have Hpm := Lib.hid (show (iot xs.length).Perm (xs.drop 0) by rw [List.drop_zero]; exact hp.perm.symm)
  have i1 := inB_true (n := (xs.length : Int)) (a := 0) (b := 12) ⟨by omega, by omega⟩
  have i2 := inB_true (n := ((rkL xs : Nat) : Int)) (a := 0) (b := (fctl xs.length : Nat) - 1) ⟨by omega, by omega⟩
  have Hst := Lib.hid (show rkL (xs.drop 0) = rkL xs by rw [List.drop_zero])
  have Hdv := fun t (h : t < xs.length) => Lib.hid (show rkL (xs.drop t) / fctl (xs.length - 1 - t) = lowN (nth xs t) (xs.drop (t + 1)) ∧ rkL (xs.drop t) % fctl (xs.length - 1 - t) = rkL (xs.drop (t + 1)) by
    have := rkL_div (nth xs t) (xs.drop (t + 1))
    rw [← drop_nth h, List.length_drop, show xs.length - (t + 1) = xs.length - 1 - t by omega] at this
    exact this)
  have Hle := fun t => Lib.hid (show rkL (xs.drop t) ≤ 479001600 by
    have := rkL_lt (xs.drop t)
    have := fctl_12 (n := (xs.drop t).length) (by rw [List.length_drop]; omega)
    omega)
  have Hun := fun t (h : t < xs.length) (L : List Int) (hs : L.Pairwise (· < ·)) (hpm : L.Perm (xs.drop t)) => Lib.hid (un_step (x := nth xs t) (r := xs.drop (t + 1)) hs (by rw [← drop_nth h]; exact hpm))
  have HB := fun m (h : m ≤ 12) => Lib.hid (fctl_12 h)
  have HP := fun m => Lib.hid (fctl_pos m)
  have Hcut := fun t (h : t < xs.length) => Lib.hid (take_nth h)
  generalize hR : rkL xs = R at *
  generalize fctl = f at *
  generalize hFn : f xs.length = Fn at *
  clear hFn hR
  go_enter Try.func18, Try.ntmps18
  go_wp2_with fail
  refine (within_c _ _ _ _).mono ?_
  rw [i1]
  rintro e w1 ⟨rfl, rfl⟩
  go_wp2_with (first
    | (have hz := hz2; clear hz; go_at_call 67; refine (within_c _ _ _ _).mono ?_; rw [i2]; rintro e w3 ⟨rfl, rfl⟩)
    | (go_at_call 66; refine (Hn _).out.mono ?_; rintro e w2 ⟨rfl, rfl⟩; have hz2 : True := trivial))
  refine (HI _).out.mono ?_
  rintro e w4 ⟨l0, rfl, h4⟩
  have hS4 := h4.emp
  clear h4
  go_wp2_with fail
  go_loopw [1, 6, 7, 8, 9] (fun rk lf p kk _ wr => ∃ (t : Nat) (z : Int) (L : List Int) (Q : Nat), t ≤ xs.length ∧ z + 1 + t = xs.length ∧ kk = .int .i64 z ∧ rk = .int .i64 Q ∧ Hid (Q = rkL (xs.drop t)) ∧ Hid (L.Pairwise (· < ·)) ∧ Hid (L.Perm (xs.drop t)) ∧ St w.heap.size w wr [row 2 lf (iv L), row 2 p (iv (xs.take t))]) (fun _ _ _ kk _ _ => ((intOf kk) + 1).toNat)
  case atStart => exact ⟨0, (xs.length : Int) - 1, _, R, by omega, by omega, rfl, rfl, Hst.out.symm, Hpw.out, Hpm.out, by rw [List.take_zero]; exact hS4⟩
  case round =>
    clear hS4
    obtain ⟨t, z, L, Q, ht, hz, rfl, rfl, hQ, hs, hpm, hS⟩ := hrel
    by_cases hz0 : 0 ≤ z
    · obtain ⟨m, rfl⟩ := Int.eq_ofNat_of_zero_le hz0
      have htl : t < xs.length := by omega
      have hm : xs.length - 1 - t = m := by omega
      have hu := (Hun t htl L hs.out hpm.out).out
      have hd := (Hdv t htl).out
      rw [hm, ← hQ.out] at hd
      have hQle : Q ≤ 479001600 := by rw [hQ.out]; exact (Hle t).out
      have Hf := fun W => HF m W (by omega)
      have hFp := (HP m).out
      have hFb := (HB m (by omega)).out
      have Hct := Hcut t htl
      have Hll := Lib.hid (show L.length = xs.length - t by rw [hpm.out.length_eq, List.length_drop])
      generalize f m = F at *
      generalize hA : lowN (nth xs t) (xs.drop (t + 1)) = A at *
      obtain ⟨Q2, hQ2⟩ : ∃ Q2, Q2 = rkL (xs.drop (t + 1)) := ⟨_, rfl⟩
      rw [← hQ2] at hd
      have hQ2le : Q2 ≤ 479001600 := by rw [hQ2]; exact (Hle (t + 1)).out
      have q2 : (Q : Int) / F = A := by rw [← Int.natCast_ediv, hd.1]
      have q4 : (Q : Int) % F = Q2 := by rw [← Int.natCast_emod, hd.2]
      have q1 : (Q : Int).tdiv F = A := by rw [Int.tdiv_eq_ediv_of_nonneg (by omega)]; exact q2
      have q3 : (Q : Int).tmod F = Q2 := by rw [Int.tmod_eq_emod_of_nonneg (by omega)]; exact q4
      have f0 : ((F : Int) == 0) = false := eq_f (by omega)
      have f1 : ¬ ((F : Int) = 0) := by omega
      have hAl := hu.1
      have hcA := (hS.rdI 0 rfl).cell A hAl
      rw [hu.2.1] at hcA
      have hxA := (hS.rdI 0 rfl).ix
      have Hs' := Lib.hid hu.2.2.1
      have Hp' := Lib.hid hu.2.2.2
      have HQ2 := Lib.hid hQ2
      have Hmt := Lib.hid hz
      have hmb : m ≤ 12 := by omega
      have hLs : L.length ≤ 12 := by rw [Hll.out]; omega
      have Htk := Lib.hid (show (xs.take t).length < 4294967296 by rw [List.length_take]; omega)
      clear hd hu hQ2 hA hQ hz hm hpm hs
      generalize nth xs t = x at *
      go_wp2_with (first
        | (go_at_call 69; refine (Delete_c hS2 0 rfl (by omega) A hAl).mono ?_; rintro e w6 ⟨l2, rfl, hS6⟩)
        | (at_builtin; refine appI hS 1 rfl Htk.out rfl _ _ rfl rfl _ rfl ?_; intro p2 w5 hS2; simp only [List.set_cons_zero, List.set_cons_succ] at hS2)
        | (go_at_call 66; refine (Hf _).out.mono ?_; rintro e w2 ⟨rfl, rfl⟩))
      simp only [List.set_cons_zero] at hS6
      rw [← Hct.out] at hS6
      go_roundw
      case rel => exact ⟨t + 1, (m : Int) - 1, _, Q2, by omega, by have := Hmt.out; omega, by go_num, rfl, HQ2.out, Hs'.out, Hp'.out, hS6⟩
      case measure => simp [intOf]
    · obtain rfl : t = xs.length := by omega
      rw [List.take_length] at hS
      go_wp2_with fail
      go_ret2
      exact ⟨_, rfl, hS.sub (List.sublist_cons_self _ _)⟩

end Go.Proofs.Ytpfgbbbjldpnnaa
