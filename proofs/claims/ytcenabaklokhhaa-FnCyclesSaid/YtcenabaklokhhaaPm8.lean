/- Walks: permutations made of cycles, cycle types. -/
import Derived.Test.YtcenabaklokhhaaPm7
import Derived.Test.YtcenabaklokhhaaStF
namespace Go.Proofs.Ytcenabaklokhhaa
set_option linter.unusedSimpArgs false
set_option linter.unusedVariables false
open Go.RowKit
attribute [local go_sem ↓] Go.wp_at_zero Go.wp_at_succ

def lnL (C : List (List Int)) : List Int := C.map fun c => (c.length : Int)
theorem lnL_len (C : List (List Int)) : (lnL C).length = C.length := by simp [lnL]
theorem lnL_take {C : List (List Int)} {t : Nat} (ht : t < C.length) : lnL (C.take (t + 1)) = lnL (C.take t) ++ [((xat C t).length : Int)] := by rw [take_xat ht]; simp [lnL]
set_option maxHeartbeats 4000000 in
set_option maxRecDepth 100000 in
theorem CycleType_c (v : Value) (xs : List Int) (w : World) (hv : RdI w v xs) (hp : pvB xs = true) : Calls Try.prog 87 #[v] w fun e w' => ∃ (z : Value) (ys : List Int), e = .returned z ∧ ys.Perm (lnL (cyM xs xs.length)) ∧ St w.heap.size w w' [row 2 z (iv ys)] := by
  have hpp := pvB_t hp
  have h32 := hpp.1
  have HC := fun W (hv : RdI W v xs) => Lib.hid (CyclesOf_c v xs W hv (by omega))
  have hV : cyV xs = cyM xs xs.length := by unfold cyV; rw [hp]; rfl
  rw [hV] at HC
  have HY := fun t (ht : t < (cyM xs xs.length).length) => Lib.hid ((cyOk hpp.2).cyc hpp.2 ht)
  have hcl := cyM_len xs xs.length
  clear hp hpp hV
  generalize cyM xs xs.length = C at *
  have Hb : Hid (∀ x ∈ lnL C, 0 ≤ x ∧ x < 64) := fun x hx => by
    obtain ⟨c, hc, rfl⟩ := List.mem_map.1 hx
    obtain ⟨t, ht, rfl⟩ := List.getElem_of_mem hc
    have := (HY t ht).out.le
    rw [xat_eq ht] at this
    omega
  go_enter Try.func87, Try.ntmps87
  go_wp2_with fail
  refine (HC _ hv).out.mono ?_
  rintro e w1 ⟨u, us, rfl, hl, h1⟩
  have Hl := Lib.hid hl
  have hln := (h1.rii hl).len
  have hix := (h1.rii hl).ix
  have hS1 : St w.heap.size w w1 (row 2 (.slice none 0 0) (iv []) :: own2 u us C) := (h1.newnil 2).perm List.perm_append_comm
  clear hl h1
  go_wp2_with fail
  go_loopw [3, 5, 9] (fun c _ i wr => ∃ t : Nat, t ≤ C.length ∧ i = .int .i64 t ∧ St w.heap.size w wr (row 2 c (iv (lnL (C.take t))) :: own2 u us C)) (fun _ _ i _ => C.length - (intOf i).toNat)
  case atStart => exact ⟨0, by omega, rfl, hS1⟩
  case round =>
    clear hS1
    obtain ⟨t, ht, rfl, hS⟩ := hrel
    by_cases hlt : t < C.length
    · have hC := (hS.sub (List.sublist_cons_self _ _)).rii Hl.out
      have hct := hC.cell t hlt
      have hrw := hC.row t hlt
      have Hz := fun W (h : RdI W (vat us t) (xat C t)) => Lib.hid (sz_c (vat us t) (xat C t) W h)
      have Hlen := Lib.hid (show (lnL (C.take t)).length < 4294967296 by rw [lnL_len, List.length_take]; omega)
      have Hsuc := Lib.hid (lnL_take hlt)
      clear hC
      go_wp2_with (first
        | (at_builtin; refine appI hS 0 rfl Hlen.out rfl _ _ rfl rfl _ rfl ?_; intro c2 w3 hS3)
        | (go_at_call 106; refine (Hz _ hrw).out.mono ?_; rintro e w4 ⟨rfl, rfl⟩))
      simp only [List.set_cons_zero] at hS3
      go_roundw
      case rel => exact ⟨t + 1, by omega, by go_num, by rw [Hsuc.out]; exact hS3⟩
      case measure => simp [intOf]; omega
    · obtain rfl : t = C.length := by omega
      rw [List.take_length] at hS
      have HS := Lib.hid (SortF_c hS 0 rfl (by rw [lnL_len]; omega) Hb.out)
      go_wp2_with (go_at_call 173; refine HS.out.mono ?_; rintro e w3 ⟨ys, rfl, hpm, h3⟩; have Hpm := Lib.hid hpm; clear hpm)
      go_ret
      exact ⟨_, ys, rfl, Hpm.out, h3.sub (by simp)⟩
/-- which numbers lie in D -/
def sbP (n : Nat) (D : List Int) : List Bool := (List.range n).map fun y : Nat => decide ((y : Int) ∈ D)
theorem sbP_len (n : Nat) (D : List Int) : (sbP n D).length = n := by simp [sbP]
theorem bat_sbP {n : Nat} {D : List Int} {y : Nat} (h : y < n) : bat (sbP n D) y = decide ((y : Int) ∈ D) := by simp [sbP, bat, h]
theorem sbP_nil (n : Nat) : sbP n [] = List.replicate n false := List.ext_getElem (by simp [sbP]) fun i _ _ => by simp [sbP]
theorem sbP_set {n : Nat} {D : List Int} {x : Int} (h0 : 0 ≤ x) (_h1 : x < n) : (sbP n D).set x.toNat true = sbP n (D ++ [x]) := by
  refine List.ext_getElem (by simp [sbP]) fun i h1 h2 => ?_
  rw [List.getElem_set]
  by_cases e : x.toNat = i
  · rw [if_pos e]
    have : (i : Int) = x := by omega
    simp [sbP, this]
  · rw [if_neg e]
    have : (i : Int) ≠ x := by omega
    simp [sbP, this]
set_option maxHeartbeats 4000000 in
set_option maxRecDepth 100000 in
theorem PermutationOfCycles_c (u : Value) (us : List Value) (xs : List Int) (C : List (List Int)) (w : World) (hu : RII w u us C) (h32 : xs.length ≤ 32) (hp : IsP xs) (hC : CyOk xs C) : Calls Try.prog 86 #[.int .i64 xs.length, u] w (MakesLK w xs 0) := by
  have HO := Lib.hid hC
  have HY := fun t (ht : t < C.length) => Lib.hid (hC.cyc hp ht)
  have HN := fun t k (ht : t < C.length) (hk : k < (xat C t).length) => Lib.hid (hC.fresh ht hk)
  have hin := inB_true (n := (xs.length : Int)) (a := 0) (b := 32) ⟨by omega, by omega⟩
  have hln := hu.len
  have hule := hu.le
  have hix := hu.ix
  have HU := Lib.hid hu
  have HF : Hid (filP xs.length (fun y => nth xs y) (fun y => (y : Int)) C.flatten = xs) := by
    unfold Hid
    rw [filP_all hC.mem]
    exact List.ext_getElem (by simp) fun i h1 h2 => by simp [nth_eq h2]
  have Hset := fun (D : List Int) (x : Int) (a : 0 ≤ x) (b : x < xs.length) => Lib.hid (filP_set (n := xs.length) (f := fun y => nth xs y) (g := fun y => (y : Int)) (D := D) a b)
  have Hst : Hid (iot xs.length = filP xs.length (fun y => nth xs y) (fun y => (y : Int)) (dn C 0 0)) := by
    unfold Hid; rw [show dn C 0 0 = [] by simp [dn], filP_nil]; rfl
  have Hfl := fun D => Lib.hid (filP_len xs.length (fun y => nth xs y) (fun y => (y : Int)) D)
  generalize hFd : filP xs.length (fun y => nth xs y) (fun y => (y : Int)) = F at *
  have hmem : ∀ t k, t < C.length → k < (xat C t).length → bat (sbP xs.length (dn C t k)) (nth (xat C t) k).toNat = false := fun t k ht hk => by
    have h1 := (HY t ht).out.el k hk
    rw [bat_sbP (by omega), Int.toNat_of_nonneg h1.1]
    exact decide_eq_false ((HN t k ht hk).out)
  have Hm := Lib.hid hmem
  have Hst2 : Hid (List.replicate xs.length false = sbP xs.length (dn C 0 0)) := by
    unfold Hid; rw [show dn C 0 0 = [] by simp [dn], sbP_nil]
  clear hFd hC hp hu hmem HN
  go_enter Try.func86, Try.ntmps86
  go_wp2_with fail
  refine (within_c _ _ _ _).mono ?_
  rintro e w1 ⟨rfl, rfl⟩
  go_wp2_with fail
  refine (ident_c xs.length w (by omega)).mono ?_
  rintro e w1 ⟨r, rfl, hS1⟩
  have hir := (hS1.rdI 0 rfl).ix
  rw [iot_len] at hir
  rw [Hst.out] at hS1
  go_wp2_with (at_make; refine mkO hS1 rfl _ _ rfl _ _ xs.length rfl rfl (by omega) ?_; intro sv w2 hS2; have hr := hS2.rdO 1 rfl; have hsx := hr.ix; simp only [List.length_replicate] at hsx; clear hr)
  rw [Hst2.out] at hS2
  replace hS2 := hS2.perm (L' := [row 4 sv (bo (sbP xs.length (dn C 0 0))), row 2 r (iv (F (dn C 0 0)))]) (by (try simp only [own2, List.cons_append, List.nil_append, List.append_nil]); classical exact List.perm_iff_count.2 (fun a => by simp only [List.cons_append, List.nil_append, List.append_nil, List.count_append, List.count_cons, List.count_nil] <;> omega))
  go_loopw [4, 5, 9, 11, 12, 13, 23, 32, 53] (fun _ _ _ _ _ _ i _ _ wr => ∃ t : Nat, t ≤ C.length ∧ i = .int .i64 t ∧ St w.heap.size w wr [row 4 sv (bo (sbP xs.length (dn C t 0))), row 2 r (iv (F (dn C t 0)))]) (fun _ _ _ _ _ _ i _ _ _ => C.length - (intOf i).toNat)
  case atStart => exact ⟨0, by omega, rfl, hS2⟩
  case round =>
    clear hS1 hS2
    obtain ⟨t, ht, rfl, hS⟩ := hrel
    by_cases hlt : t < C.length
    · have hCw := hS.oldII HU.out
      have hct := hCw.cell t hlt
      have hrw := hCw.row t hlt
      have hlc := hrw.len
      have hic := hrw.ix
      have HYt := HY t hlt
      have hl1 := HYt.out.pos
      have hl2 := HYt.out.le
      have HR := Lib.hid (HU.out.row t hlt)
      clear hCw hrw
      have f0 : (((xat C t).length : Int) == 0) = false := eq_f (by omega)
      go_wp2_with fail
      go_loopw [4, 5, 11, 32] (fun _ _ _ i wr' => ∃ k : Nat, k ≤ (xat C t).length ∧ i = .int .i64 k ∧ St w.heap.size w wr' [row 4 sv (bo (sbP xs.length (dn C t k))), row 2 r (iv (F (dn C t 0)))]) (fun _ _ _ i _ => (xat C t).length - (intOf i).toNat)
      case atStart => exact ⟨0, by omega, rfl, hS⟩
      case round =>
        clear hS hct
        obtain ⟨k, hk, rfl, hS⟩ := hrel
        by_cases hlk : k < (xat C t).length
        · have hel := HYt.out.el k hlk
          have hcx := (hS.oldI HR.out).cell k hlk
          have hcs := (hS.rdO 0 rfl).cell (nth (xat C t) k).toNat (by rw [sbP_len]; omega)
          rw [Hm.out t k hlt hlk] at hcs
          have Hs := Lib.hid (sbP_set (D := dn C t k) hel.1 hel.2)
          have Hd := Lib.hid (dn_succ hlk)
          have HL := Lib.hid (sbP_len xs.length (dn C t k))
          obtain ⟨x0, x1⟩ := hel
          have hin2 := inB_true (n := nth (xat C t) k) (a := 0) (b := (xs.length : Int) - 1) ⟨x0, by omega⟩
          have hsxx := hsx .i64 (nth (xat C t) k) x0 x1
          generalize nth (xat C t) k = x at *
          go_wp2_with fail
          refine (within_c _ _ _ _).mono ?_
          rintro e w3 ⟨rfl, rfl⟩
          rw [hin2]
          go_wp2_with (refine stoO hS 0 rfl x.toNat (by rw [HL.out]; omega) rfl _ _ rfl rfl true rfl ?_; intro w2 hS2)
          simp only [List.set_cons_zero] at hS2
          go_roundw
          case rel =>
            exact ⟨k + 1, by omega, by go_num, by rw [Hd.out, ← Hs.out]; exact hS2⟩
          case measure => simp [intOf]; omega
        · obtain rfl : k = (xat C t).length := by omega
          go_wp2_with fail
          go_loopw [12, 13, 53] (fun _ _ i wr' => ∃ k : Nat, k ≤ (xat C t).length ∧ i = .int .i64 k ∧ St w.heap.size w wr' [row 4 sv (bo (sbP xs.length (dn C t (xat C t).length))), row 2 r (iv (F (dn C t k)))]) (fun _ _ i _ => (xat C t).length - (intOf i).toNat)
          case atStart => exact ⟨0, by omega, rfl, hS⟩
          case round =>
            clear hS
            obtain ⟨k, hk, rfl, hS⟩ := hrel
            by_cases hlk : k < (xat C t).length
            · have hel := HYt.out.el k hlk
              have hcx := (hS.oldI HR.out).cell k hlk
              have hcn := (hS.oldI HR.out).cell ((k + 1) % (xat C t).length) (Nat.mod_lt _ (by omega))
              rw [HYt.out.next k hlk] at hcn
              have Hs := Hset (dn C t k) (nth (xat C t) k) hel.1 hel.2
              have Hd := Lib.hid (dn_succ hlk)
              have HL := Hfl (dn C t k)
              obtain ⟨x0, x1⟩ := hel
              have hm1 := Nat.mod_lt (k + 1) (show 0 < (xat C t).length by omega)
              have hmz : ((k : Int) + 1) % ((xat C t).length : Int) = (((k + 1) % (xat C t).length : Nat) : Int) := by simp
              have hixz := hic .i64 (((k + 1) % (xat C t).length : Nat) : Int) (by omega) (by omega)
              rw [Int.toNat_natCast] at hixz
              have hirx := hir .i64 (nth (xat C t) k) x0 x1
              generalize (k + 1) % (xat C t).length = z at *
              generalize nth (xat C t) k = x at *
              generalize nth xs x.toNat = y at *
              go_wp2_with (refine stoI hS 1 rfl x.toNat (by rw [HL.out]; omega) rfl _ _ rfl rfl _ rfl ?_; intro w2 hS2)
              simp only [List.set_cons_zero, List.set_cons_succ] at hS2
              go_roundw
              case rel => exact ⟨k + 1, by omega, by go_num, by rw [Hd.out, ← Hs.out]; exact hS2⟩
              case measure => simp [intOf]; omega
            · obtain rfl : k = (xat C t).length := by omega
              have Hda := Lib.hid (dn_all hlt)
              go_wp2_with fail
              go_roundw
              case rel => exact ⟨t + 1, by omega, by go_num, by rw [← Hda.out]; exact hS⟩
              case measure => simp [intOf]; omega
    · obtain rfl : t = C.length := by omega
      go_wp2_with fail
      go_ret2
      refine ⟨_, rfl, ?_⟩
      have h := hS.sub (List.sublist_cons_self _ _)
      rw [dn_end, HF.out] at h
      exact h
end Go.Proofs.Ytcenabaklokhhaa
