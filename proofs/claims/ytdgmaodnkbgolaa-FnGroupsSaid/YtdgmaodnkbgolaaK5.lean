/- The texts of this claim, run 5: Gk PCl Srt Has Pm1 Pm3 Gs Mk Gt Mr Ds0 Ds1. -/
import Derived.Test.YtdgmaodnkbgolaaK3
import Derived.Test.YtdgmaodnkbgolaaK4
import Derived.Laws.BytesArg
import Derived.IntWalk
import Derived.Shelf.SortM.Plain
import Derived.Shelf.SortM.SortNone
import Derived.Sort.OwnSortedInts
import Derived.Deep.RegionHeld3
import Derived.Deep.DrawnRows
import Derived.Shelf.SlSortCmp.NoneTotal
section
/- Walks: a list of small numbers as a text, the key of a map. -/
namespace Go.Proofs.Ytdgmaodnkbgolaa
set_option linter.unusedSimpArgs false
set_option linter.unusedVariables false
open Go.RowKit

/-- numbers of one byte -/
def Byt (p : List Int) : Prop := ∀ x ∈ p, 0 ≤ x ∧ x ≤ 255
def kyS (p : List Int) : ByteArray := strOfNums p
def kyL (p : List Int) : Lit := .string (kyS p).data.toList
theorem kyL_key (p : List Int) : WideAt.IsKeyLit (kyL p) := trivial
theorem kyS_list (p : List Int) : (kyS p).data.toList = p.map fun x => x.toNat.toUInt8 := by
  unfold kyS; rw [strOfNums_data]
theorem kyS_size (p : List Int) : (kyS p).size = p.length := by
  have := kyS_list p
  have h : (kyS p).data.toList.length = p.length := by rw [this, List.length_map]
  rw [← h, Array.length_toList]; rfl
theorem kyL_inj {p q : List Int} (hp : Byt p) (hq : Byt q) (h : kyL p = kyL q) : p = q := by
  unfold kyL at h
  rw [kyS_list, kyS_list] at h
  simp only [Lit.string.injEq] at h
  have hl : p.length = q.length := by have := congrArg List.length h; simpa using this
  apply List.ext_getElem hl
  intro i h1 h2
  have e : (p.map fun x => x.toNat.toUInt8)[i]'(by simpa using h1) = (q.map fun x => x.toNat.toUInt8)[i]'(by simpa using h2) := List.getElem_of_eq h _
  rw [List.getElem_map, List.getElem_map] at e
  have a := hp _ (List.getElem_mem h1)
  have b := hq _ (List.getElem_mem h2)
  have e2 := congrArg UInt8.toNat e
  simp only [Nat.toUInt8, UInt8.toNat_ofNat'] at e2
  omega
theorem St.shgM {B : Nat} {w0 w : World} {L : List Ent} (h : St B w0 w L) (i : Nat) {e : TypeId} {v : Value} {us : List Value} (hi : L[i]? = some (row e v us)) (h0 : 0 < us.length) : ∃ g cap, v = .slice (some ⟨g, 0, none⟩) us.length cap := by
  have hx := h.ok _ (List.mem_of_getElem? hi)
  rcases hx with ⟨hp, _⟩ | ⟨_, hv, hu⟩ | ⟨_, g, cap, cur, hv, hB, hh, h1, h2, h3, h4⟩
  · simp [row] at hp
  · simp only [row] at hu; rw [hu] at h0; simp at h0
  · simp only [row] at hv
    exact ⟨g, cap, hv⟩
def GivesK (w : World) (p : List Int) (e : Ending) (w' : World) : Prop := e = .returned (.string (kyS p)) ∧ St w.heap.size w w' []
def i8v (xs : List Int) : List Value := xs.map (Value.int .u8)
theorem Try.info_u8 : (Try.prog.info? 5).map (fun i => (i.zero, i.size, i.bytes)) = some (some (.int .u8 0), 1, 1) := by kernel_rfl
theorem Try.size_u8 : (Try.prog.info? 5).map (·.size) = some 1 := by kernel_rfl
theorem Try.und_u8s : Try.prog.underlying 22 = some (.slice 5) := by kernel_rfl
theorem Try.und_u8 : Try.prog.underlying 5 = some (.int .u8) := by kernel_rfl
theorem Try.und_str : Try.prog.underlying 9 = some .string := by kernel_rfl
def padK (p : List Int) (k : Nat) : List Int := p.take k ++ List.replicate (p.length - k) 0
theorem padK_len {p : List Int} {k : Nat} (h : k ≤ p.length) : (padK p k).length = p.length := by simp [padK]; omega
theorem padK_set {p : List Int} {k : Nat} (h : k < p.length) : (padK p k).set k (nth p k) = padK p (k + 1) := by
  unfold padK
  rw [show p.length - k = (p.length - (k + 1)) + 1 by omega, List.replicate_succ, List.set_append_right _ _ (by simp; omega)]
  rw [show k - (p.take k).length = 0 by simp; omega, List.set_cons_zero, take_nth h, List.append_assoc]
  rfl
set_option maxHeartbeats 4000000 in
set_option maxRecDepth 100000 in
theorem keyOf_c (v : Value) (p : List Int) (w : World) (hv : RdI w v p) (hp : Byt p) (hN : p.length ≤ 1000) (h0 : 0 < p.length) : Calls Try.prog 32 #[v] w (GivesK w p) := by
  have hln := hv.len
  have hix := hv.ixe
  have Hp := Lib.hid hp
  have Hv := Lib.hid hv
  clear hp hv
  go_enter Try.func32, Try.ntmps32
  go_wp2_with (at_make; refine wpList_st_make rfl _ _ 22 rfl 5 (.int .u8 0) 1 Try.und_u8s Try.info_u8 rfl (St.refl w) _ _ p.length rfl rfl (by omega) (by omega) ?_; intro vb w1 hS1)
  have hS1 : St w.heap.size w w1 [row 5 vb (i8v (padK p 0))] := by
    have : i8v (padK p 0) = List.replicate p.length (.int .u8 0) := by simp [i8v, padK]
    rw [this]; exact hS1
  have hxb := run_ix_sl (P := Try.prog) (hS1.rd 0 rfl).sl 22 Try.und_u8s Try.size_u8
  have hlb : (i8v (padK p 0)).length = p.length := by simp [i8v, padK_len (Nat.zero_le _)]
  rw [hlb] at hxb
  clear hlb
  go_loopw [4, 5, 11] (fun _ _ ki wr => ∃ k : Nat, k ≤ p.length ∧ ki = .int .i64 k ∧ St w.heap.size w wr [row 5 vb (i8v (padK p k))]) (fun _ _ ki _ => p.length - (intOf ki).toNat)
  case atStart => exact ⟨0, by omega, rfl, hS1⟩
  case round =>
    clear hS1
    obtain ⟨k, hk, rfl, hS⟩ := hrel
    by_cases hlt : k < p.length
    · have hki : (k : Int) < (p.length : Int) := by omega
      have xk := hix (k : Int) k rfl hlt
      have ck := (hS.oldI Hv.out).cell k hlt
      have xb := hxb .i64 (k : Int) (by omega) (by omega)
      rw [Int.toNat_natCast] at xb
      have hb := Hp.out _ (nth_mem hlt)
      have hst := Lib.hid (padK_set hlt)
      have hkl := Lib.hid (show k < (i8v (padK p k)).length by rw [i8v, List.length_map, padK_len hk]; exact hlt)
      generalize nth p k = x at *
      have w1 : IntKind.u8.wrap x = x := IntWalk.u8_in _ (by omega)
      go_wp2_with (refine wpList_st_store rfl _ _ 5 rfl Try.size_u8 hS 0 rfl k hkl.out (.int .u8 x) rfl (by first | rfl | simp [Act.eval, Act.put]) rfl rfl ?_; intro w5 hS5)
      simp only [List.set_cons_zero] at hS5
      rw [show (i8v (padK p k)).set k (.int .u8 x) = i8v (padK p (k + 1)) by rw [← hst.out]; simp [i8v, List.map_set]] at hS5
      go_roundw
      case rel => exact ⟨k + 1, by omega, by go_num, hS5⟩
      case measure => simp [intOf]; omega
    · obtain rfl : k = p.length := by omega
      have hpe : padK p p.length = p := by simp [padK]
      rw [hpe] at hS
      obtain ⟨g, cap, hva⟩ := hS.shgM 0 rfl (by rw [i8v, List.length_map]; exact h0)
      have hrd := hS.rd 0 (e := 5) (v := vb) (us := i8v p) rfl
      have hcv := run_convert_bytes_arg (P := Try.prog) wr 22 5 Try.und_u8s Try.und_u8 g 0 p.length cap p rfl (fun i hi => by
        have h1 := hrd.2 i (.int .u8 (p.getD i 0)) (by simp [i8v, hi])
        rw [hva] at h1
        simp only [el, add_mk] at h1
        rw [Nat.zero_add]; exact h1) 9 Try.und_str
      rw [i8v, List.length_map] at hva
      have hout := hS.out
      subst hva
      clear hS hrd hxb
      go_wp2_with fail
      go_ret
      exact ⟨rfl, hout⟩
end Go.Proofs.Ytdgmaodnkbgolaa
end

section
/- Plain: what permutations generate, found breadth first. -/
namespace Go.Proofs.Ytdgmaodnkbgolaa
set_option linter.unusedSimpArgs false
set_option linter.unusedVariables false
open Go

theorem Prm.byt {n : Nat} {p : List Int} (h : Prm n p) (hn : n ≤ 32) : Byt p := fun x hx => by
  obtain ⟨j, hj, rfl⟩ := List.getElem_of_mem hx
  have := h.1.lt j hj
  rw [nth_eq hj, h.2] at this; omega
structure Bfs (n : Nat) (S E : List (List Int)) (k i : Nat) : Prop where
  nd : E.Nodup
  gen : ∀ p ∈ E, Gen n S p
  one : iot n ∈ E
  cl : ∀ a, a < k → ∀ g ∈ S, cmpL (xat E a) g ∈ E
  ci : ∀ c, c < i → cmpL (xat E k) (xat S c) ∈ E
  kl : k ≤ E.length
theorem xat_appL {E : List (List Int)} {p : List Int} {a : Nat} (h : a < E.length) : xat (E ++ [p]) a = xat E a := by
  rw [xat_eq h, xat_eq (by simp; omega), List.getElem_append_left h]
section
variable {n k i : Nat} {S E A : List (List Int)}
theorem Bfs.start (n : Nat) (S : List (List Int)) : Bfs n S [iot n] 0 0 :=
  ⟨by simp, fun p hp => by rw [List.mem_singleton.1 hp]; exact Gen.one, by simp, fun a ha => by omega, fun c hc => by omega, by simp⟩
theorem Bfs.old (h : Bfs n S E k i) (hm : cmpL (xat E k) (xat S i) ∈ E) : Bfs n S E k (i + 1) :=
  ⟨h.nd, h.gen, h.one, h.cl, fun c hc => by
    by_cases e : c = i
    · subst e; exact hm
    · exact h.ci c (by omega), h.kl⟩
theorem Bfs.new (h : Bfs n S E k i) (hk : k < E.length) (hi : i < S.length) (hm : cmpL (xat E k) (xat S i) ∉ E) : Bfs n S (E ++ [cmpL (xat E k) (xat S i)]) k (i + 1) := by
  refine ⟨?_, fun p hp => ?_, List.mem_append_left _ h.one, fun a ha g hg => ?_, fun c hc => ?_, by rw [List.length_append]; have := h.kl; omega⟩
  · rw [List.nodup_append]
    refine ⟨h.nd, by simp, fun x hx y hy e => ?_⟩
    rw [List.mem_singleton] at hy
    subst hy; subst e; exact hm hx
  · rcases List.mem_append.1 hp with hp | hp
    · exact h.gen p hp
    · rw [List.mem_singleton.1 hp]; exact (h.gen _ (xat_mem hk)).mul (xat_mem hi)
  · rw [xat_appL (by omega)]; exact List.mem_append_left _ (h.cl a ha g hg)
  · rw [xat_appL hk]
    by_cases e : c = i
    · subst e; exact List.mem_append_right _ (by simp)
    · exact List.mem_append_left _ (h.ci c (by omega))
theorem Bfs.next (h : Bfs n S E k S.length) (hk : k < E.length) : Bfs n S E (k + 1) 0 :=
  ⟨h.nd, h.gen, h.one, fun a ha g hg => by
    by_cases e : a = k
    · subst e
      obtain ⟨c, hc, rfl⟩ := List.getElem_of_mem hg
      rw [← xat_eq hc]; exact h.ci c hc
    · exact h.cl a (by omega) g hg, fun c hc => by omega, hk⟩
theorem strA_srt (h : E.Nodup) : StrA (srtL E) := by
  have h1 := srtL_pw E
  have h2 : (srtL E).Nodup := (srtL_perm E).nodup_iff.2 h
  rw [List.nodup_iff_pairwise_ne] at h2
  unfold StrA
  rw [List.pairwise_iff_getElem] at *
  intro i j hi hj hij
  have a1 := h1 i j hi hj hij
  have a2 := h2 i j hi hj hij
  have a3 : cmpI (srtL E)[i] (srtL E)[j] ≠ 0 := fun e => a2 (cmpI_eq e)
  have a4 := of_decide_eq_true a1
  omega
theorem Bfs.fin (h : Bfs n S E E.length 0) : ClO n S (srtL E) := by
  refine ⟨strA_srt h.nd, fun p => ?_⟩
  rw [(srtL_perm E).mem_iff]
  refine ⟨h.gen p, fun hp => ?_⟩
  exact hp.ind (C := fun p => p ∈ E) h.one fun q g hq hg => by
    obtain ⟨a, ha, rfl⟩ := List.getElem_of_mem hq
    rw [← xat_eq ha]; exact h.cl a ha g hg
theorem Bfs.le (h : Bfs n S E k i) (hA : Grp n A) (hS : ∀ g ∈ S, g ∈ A) : E.length ≤ A.length :=
  h.nd.length_le_of_subset fun p hp => hA.gen hS (h.gen p hp)
/-- the keys -/
def kyA (E : List (List Int)) : List Lit := E.map kyL
theorem kyA_mem {p : List Int} (hp : Byt p) (hE : ∀ q ∈ E, Byt q) : kyL p ∈ kyA E ↔ p ∈ E := by
  unfold kyA
  rw [List.mem_map]
  constructor
  · rintro ⟨q, hq, e⟩; rw [← kyL_inj (hE q hq) hp e]; exact hq
  · intro h; exact ⟨p, h, rfl⟩
end
end Go.Proofs.Ytdgmaodnkbgolaa
end

section
/- slices.Sort at []int64: a row that a call owns, sorted. -/
namespace Go.Proofs.Ytdgmaodnkbgolaa
set_option linter.unusedSimpArgs false
set_option linter.unusedVariables false
open Go.RowKit

def Try.mSort_ren : Go.Shelf.Ren := ⟨fun | 5 => 52 | 8 => 69 | 7 => 70 | 19 => 82 | 20 => 83 | 10 => 84 | 11 => 85 | 12 => 86 | 13 => 87 | 14 => 88 | 15 => 89 | 16 => 90 | 17 => 91 | 18 => 92 | 30 => 98 | 31 => 94 | 32 => 95 | 33 => 99 | 34 => 100 | 35 => 73 | 40 => 102 | n => n, fun | 23 => 32 | 25 => 2 | 3 => 3 | 32 => 86 | 22 => 32 | 0 => 0 | 44 => 100 | 46 => 65 | 4 => 4 | 36 => 94 | 35 => 93 | 41 => 73 | 5 => 5 | 9 => 9 | 53 => 108 | 57 => 112 | 63 => 116 | 64 => 117 | n => n, fun | n => n⟩
theorem Try.mSort : Go.Proofs.SlLaysM.n5 Try.prog Try.mSort_ren := {
  mixed := by kernel_rfl
  f5 := ⟨Try.f52.name, by decide, Try.func52.trans (congrArg some (by kernel_rfl))⟩
  f7 := ⟨Try.f70.name, by decide, Try.func70.trans (congrArg some (by kernel_rfl))⟩
  f8 := Try.func69.trans (congrArg some (by kernel_rfl))
  f10 := ⟨Try.f84.name, by decide, Try.func84.trans (congrArg some (by kernel_rfl))⟩
  f11 := ⟨Try.f85.name, by decide, Try.func85.trans (congrArg some (by kernel_rfl))⟩
  f12 := ⟨Try.f86.name, by decide, Try.func86.trans (congrArg some (by kernel_rfl))⟩
  f13 := ⟨Try.f87.name, by decide, Try.func87.trans (congrArg some (by kernel_rfl))⟩
  f14 := ⟨Try.f88.name, by decide, Try.func88.trans (congrArg some (by kernel_rfl))⟩
  f15 := ⟨Try.f89.name, by decide, Try.func89.trans (congrArg some (by kernel_rfl))⟩
  f16 := ⟨Try.f90.name, by decide, Try.func90.trans (congrArg some (by kernel_rfl))⟩
  f17 := ⟨Try.f91.name, by decide, Try.func91.trans (congrArg some (by kernel_rfl))⟩
  f18 := ⟨Try.f92.name, by decide, Try.func92.trans (congrArg some (by kernel_rfl))⟩
  f19 := Try.func82.trans (congrArg some (by kernel_rfl))
  f20 := Try.func83.trans (congrArg some (by kernel_rfl))
  f30 := ⟨Try.f98.name, by decide, Try.func98.trans (congrArg some (by kernel_rfl))⟩
  f31 := Try.func94.trans (congrArg some (by kernel_rfl))
  f32 := Try.func95.trans (congrArg some (by kernel_rfl))
  f33 := ⟨Try.f99.name, by decide, Try.func99.trans (congrArg some (by kernel_rfl))⟩
  f34 := ⟨Try.f100.name, by decide, Try.func100.trans (congrArg some (by kernel_rfl))⟩
  f35 := ⟨Try.f73.name, by decide, Try.func73.trans (congrArg some (by kernel_rfl))⟩
  f40 := ⟨Try.f102.name, by decide, Try.func102.trans (congrArg some (by kernel_rfl))⟩
  t0 := Try.underlying0
  a0 := Try.isAgg0
  z0 := Try.sizeOf0
  v0 := Try.zeroValue0
  t3 := Try.underlying3
  a3 := Try.isAgg3
  z3 := Try.sizeOf3
  v3 := Try.zeroValue3
  t4 := Try.underlying4
  a4 := Try.isAgg4
  z4 := Try.sizeOf4
  v4 := Try.zeroValue4
  t5 := Try.underlying5
  a5 := Try.isAgg5
  z5 := Try.sizeOf5
  v5 := Try.zeroValue5
  t9 := Try.underlying9
  a9 := Try.isAgg9
  z9 := Try.sizeOf9
  v9 := Try.zeroValue9
  t22 := Try.underlying32
  a22 := Try.isAgg32
  z22 := Try.sizeOf32
  v22 := Try.zeroValue32
  t23 := Try.underlying32
  a23 := Try.isAgg32
  z23 := Try.sizeOf32
  v23 := Try.zeroValue32
  t25 := Try.underlying2
  a25 := Try.isAgg2
  z25 := Try.sizeOf2
  v25 := Try.zeroValue2
  t32 := Try.underlying86
  a32 := Try.isAgg86
  z32 := Try.sizeOf86
  v32 := Try.zeroValue86
  t35 := Try.underlying93
  a35 := Try.isAgg93
  z35 := Try.sizeOf93
  v35 := Try.zeroValue93
  t36 := Try.underlying94
  a36 := Try.isAgg94
  z36 := Try.sizeOf94
  v36 := Try.zeroValue94
  t41 := Try.underlying73
  a41 := Try.isAgg73
  z41 := Try.sizeOf73
  v41 := Try.zeroValue73
  t44 := Try.underlying100
  a44 := Try.isAgg100
  z44 := Try.sizeOf100
  v44 := Try.zeroValue100
  t46 := Try.underlying65
  a46 := Try.isAgg65
  z46 := Try.sizeOf65
  v46 := Try.zeroValue65
  t53 := Try.underlying108
  a53 := Try.isAgg108
  z53 := Try.sizeOf108
  v53 := Try.zeroValue108
  t57 := Try.underlying112
  a57 := Try.isAgg112
  z57 := Try.sizeOf112
  v57 := Try.zeroValue112
  t63 := Try.underlying116
  a63 := Try.isAgg116
  z63 := Try.sizeOf116
  v63 := Try.zeroValue116
  t64 := Try.underlying117
  a64 := Try.isAgg117
  z64 := Try.sizeOf117
  v64 := Try.zeroValue117
  }

/-- in rising order -/
def srt (xs : List Int) : List Int := xs.mergeSort fun x y => decide (x ≤ y)
theorem srt_len (xs : List Int) : (srt xs).length = xs.length := List.length_mergeSort _
theorem srt_perm (xs : List Int) : (srt xs).Perm xs := List.mergeSort_perm _ _
theorem Sort_c {B : Nat} {w0 w : World} {L : List Ent} (hS : St B w0 w L) (i : Nat) {v : Value} {xs : List Int} (hi : L[i]? = some (row 2 v (iv xs))) (hl : xs.length < 4611686018427387904) :
    Calls Try.prog 52 #[v] w fun e w' => e = .returned (.tuple #[]) ∧ St B w0 w' (L.set i (row 2 v (iv (srt xs)))) := by
  have hx := hS.ok _ (List.mem_of_getElem? hi)
  rcases hx with ⟨hp, _⟩ | ⟨_, hv, hu⟩ | ⟨_, g, cap, cur, hv, hB, hh, h1, h2, h3, h4⟩
  · simp [row] at hp
  · simp only [row] at hv hu
    have hx : xs = [] := by cases xs with
      | nil => rfl
      | cons a r => simp [iv] at hu
    subst hx
    subst hv
    have hc := AnyM.slices_Sort_int_none Try.mSort none 0 w
    refine Calls.mono hc ?_
    rintro e w' ⟨rfl, rfl⟩
    refine ⟨rfl, ?_⟩
    have : L.set i (row 2 (.slice none 0 0) (iv (srt []))) = L := by
      obtain ⟨hlt, heq⟩ := List.getElem?_eq_some_iff.1 hi
      have e : srt [] = [] := by simp [srt]
      rw [e, ← heq, List.set_getElem_self]
    rw [this]; exact hS
  · simp only [row] at hv h1 h4 hh
    rw [iv_len] at hv h1 h4
    have hblk : g < w.heap.size := (Array.getElem?_eq_some_iff.1 hh).1
    have hH : Go.Sort.Holds (Value.int .i64) w g 0 xs.toArray := holds_of_blockI hh h4
    have hc := AnyM.slices_Sort_int Try.mSort g 0 cap xs w hH hblk hl
    subst hv
    refine Calls.mono hc ?_
    rintro e w' ⟨rfl, n, os, rfl⟩
    refine ⟨rfl, ?_⟩
    have hlen : (srt xs).length = xs.length := srt_len xs
    refine hS.put i hi ?_ (row 2 (.slice (some ⟨g, 0, none⟩) xs.length cap) (iv (srt xs))) (.inr (.inr ⟨rfl, g, cap, _, ?_, hB, heap_sortedI _ hh, ?_, h2, ?_, ?_⟩)) (.inl rfl)
    · exact grownBy_sortedI _
    · simp [row, iv_len, hlen]
    · simp [row, iv_len, hlen]; omega
    · simp [Go.Sort.putCells, h3]
    · have := take_putCellsI cur (srt xs) (by omega)
      rw [hlen] at this
      have hlen' : (xs.mergeSort fun x y => decide (x ≤ y)).length = xs.length := hlen
      simpa [row, iv, srt, hlen'] using this
end Go.Proofs.Ytdgmaodnkbgolaa
end

section
/- Walks: whether a list holds a number. -/
namespace Go.Proofs.Ytdgmaodnkbgolaa
set_option linter.unusedSimpArgs false
set_option linter.unusedVariables false
open Go.RowKit
set_option maxHeartbeats 1000000 in
set_option maxRecDepth 100000 in
theorem l00Has_c (v : Value) (xs : List Int) (n : Int) (w : World) (hv : RdI w v xs) :
    Calls Try.prog 71 #[v, .int .i64 n] w fun e w' => e = .returned (.bool (decide (n ∈ xs))) ∧ w = w' := by
  have hln := hv.len
  have hix := hv.ix
  have hm := hv.le
  go_enter Try.func71, Try.ntmps71
  go_wp2_with fail
  go_loopw [5] (fun i wr => ∃ k : Nat, k ≤ xs.length ∧ i = .int .i64 k ∧ Hid (n ∉ xs.take k) ∧ wr = w) (fun i _ => xs.length - (intOf i).toNat)
  case atStart => exact ⟨0, by omega, rfl, by simp [Hid], rfl⟩
  case round =>
    obtain ⟨k, hk, rfl, hI, rfl⟩ := hrel
    by_cases hlt : k < xs.length
    · have hc := hv.cell k hlt
      by_cases hp : nth xs k = n
      · have f1 := eq_t hp
        have Hp := Lib.hid (show decide (n ∈ xs) = true by rw [decide_eq_true_iff, ← hp]; exact nth_mem hlt)
        clear hp
        go_wp2_with fail
        go_ret
        exact ⟨ret_bool Hp.out.symm, rfl⟩
      · have f1 := eq_f hp
        have Hp := Lib.hid (show n ∉ xs.take (k + 1) by rw [take_nth hlt, List.mem_append, not_or]; exact ⟨hI.out, by simp; exact fun e => hp e.symm⟩)
        clear hp
        go_wp2_with fail
        go_roundw
        case rel => exact ⟨k + 1, by omega, by go_num, Hp, by first | rfl | trivial⟩
        case measure => simp [intOf]; omega
    · have Hn := Lib.hid (show decide (n ∈ xs) = false by rw [decide_eq_false_iff_not]; have := hI.out; rwa [List.take_of_length_le (by omega)] at this)
      go_wp2_with fail
      go_ret
      exact ⟨ret_bool Hn.out.symm, rfl⟩
end Go.Proofs.Ytdgmaodnkbgolaa
end

section
/- Walks: valid permutations of both sides; permutations that the laws make. -/
namespace Go.Proofs.Ytdgmaodnkbgolaa
set_option linter.unusedSimpArgs false
set_option linter.unusedVariables false
open Go.RowKit
attribute [local go_sem ↓] Go.wp_at_zero Go.wp_at_succ

set_option maxHeartbeats 2000000 in
set_option maxRecDepth 100000 in
theorem ValidPermutation_c (v : Value) (xs : List Int) (w : World) (hv : RdI w v xs) (hN : xs.length ≤ 1048576) : Calls Try.prog 48 #[v] w (GivesB w (pvB xs)) := by
  have hlx := hv.len
  have HP := Lib.hid (show IsP xs ↔ ∀ j, j < xs.length → nth (srt xs) j = j from isP_iff)
  have Hl := Lib.hid (srt_len xs)
  have HS := fun {B : Nat} {w0 w : World} {L : List Ent} (hS : St B w0 w L) (i : Nat) {v : Value} (hi : L[i]? = some (row 2 v (iv xs))) => Lib.hid (Sort_c hS i hi (by omega))
  generalize srt xs = ys at *
  go_enter Try.func48, Try.ntmps48
  go_wp2_with fail
  refine (Clone_c v xs w hv hN).mono ?_
  rintro e w1 ⟨u, rfl, h1⟩
  go_wp2_with fail
  refine (HS h1 0 rfl).out.mono ?_
  rintro e w2 ⟨rfl, hS⟩
  simp only [List.set_cons_zero] at hS
  have hln := (hS.rdI 0 rfl).len
  have hix := (hS.rdI 0 rfl).ix
  rw [Hl.out] at hln hix
  clear HS h1
  go_wp2_with fail
  go_loopw [4, 5, 12] (fun _ _ x wr => ∃ k : Nat, k ≤ xs.length ∧ x = .int .i64 k ∧ Hid (∀ j, j < k → nth ys j = j) ∧ St w.heap.size w wr [row 2 u (iv ys)]) (fun _ _ x _ => xs.length - (intOf x).toNat)
  case atStart => exact ⟨0, by omega, rfl, fun j hj => by omega, hS⟩
  case round =>
    clear hS
    obtain ⟨k, hk, rfl, hI, hS⟩ := hrel
    by_cases hlt : k < xs.length
    · have hc := (hS.rdI 0 rfl).cell k (by rw [Hl.out]; exact hlt)
      by_cases h1 : nth ys k = k
      · have e1 := ne_f h1
        have H1 := Lib.hid h1
        clear h1
        go_wp2_with fail
        go_roundw
        case rel => exact ⟨k + 1, by omega, by go_num, fun j hj => by
          by_cases e : j = k
          · subst e; exact H1.out
          · exact hI.out j (by omega), hS⟩
        case measure => simp [intOf]; omega
      · have e1 := ne_t h1
        have H1 := Lib.hid h1
        clear h1
        go_wp2_with fail
        go_ret
        exact ⟨ret_bool (pvB_no fun h => H1.out (HP.out.1 h.2 k hlt)).symm, hS.out⟩
    · go_wp2_with fail
      go_ret
      have hp : IsP xs := HP.out.2 fun j hj => hI.out j (by omega)
      refine ⟨ret_bool ?_, hS.out⟩
      by_cases h32 : xs.length ≤ 32
      · rw [pvB_yes h32 hp]; simp; omega
      · rw [pvB_no fun h => h32 h.1]; simp; omega

set_option maxHeartbeats 2000000 in
set_option maxRecDepth 100000 in
theorem l04Ok_c (v : Value) (xs : List Int) (w : World) (hv : RdI w v xs) : Calls Try.prog 56 #[v] w (GivesB w (pvB xs)) := by
  have hln := hv.len
  have hix := hv.ix
  have hle := hv.le
  have HP := Lib.hid (isP_iff2 (xs := xs))
  by_cases h32 : 32 < xs.length
  · have H := Lib.hid (pvB_no (xs := xs) fun h => by omega)
    go_enter Try.func56, Try.ntmps56
    go_wp2_with fail
    go_ret
    exact ⟨ret_bool H.out.symm, St.refl w⟩
  · go_enter Try.func56, Try.ntmps56
    go_wp2_with fail
    go_loopw [3] (fun x wr => ∃ k : Nat, k ≤ xs.length ∧ x = .int .i64 k ∧ Hid (∀ j, j < k → (0 ≤ nth xs j ∧ nth xs j ≤ xs.length - 1) ∧ nth xs j ∉ xs.take j) ∧ St w.heap.size w wr []) (fun x _ => xs.length - (intOf x).toNat)
    case atStart => exact ⟨0, by omega, rfl, fun j hj => by omega, St.refl w⟩
    case round =>
      obtain ⟨k, hk, rfl, hI, hS⟩ := hrel
      by_cases hlt : k < xs.length
      · have hq := fun s : SS w.heap.size w [] => (s.st.oldI hv).cell k hlt
        have hsl := rsl_hi hv k (by omega)
        by_cases h1 : 0 ≤ nth xs k ∧ nth xs k ≤ (xs.length : Int) - 1
        · have i1 := inB_true h1
          have H1 := Lib.hid h1
          clear h1
          by_cases h2 : nth xs k ∈ xs.take k
          · have i2 : decide (nth xs k ∈ List.drop 0 (xs.take k)) = true := decide_eq_true h2
            have H2 := Lib.hid h2
            clear h2
            have hHas := fun W (h : St w.heap.size w W []) => Lib.hid (l00Has_c (rsl v 0 k) _ (nth xs k) W (rsl_rd (h.oldI hv) (Nat.zero_le k) hk))
            rw [i2] at hHas
            go_wp2_with fail
            have hne : Nonempty (SS _ _ _) := ⟨⟨_, hS⟩⟩
            refine wp_region_st (by kernel_rfl) (by kernel_rfl) hS ?_
            repeat (go_big_quiet_step ((first | (go_at_call 55; exact st_quiet0 (l00In_c _ _ _ _)) | (go_at_call 71; exact st_quiet0 (hHas _ (SS.st _)).out))))
            refine wpQuiet_nil ?_
            rintro _ ⟨s2, rfl⟩
            have hS2 := s2.st
            generalize s2.w = w2 at hS2 ⊢
            go_wp2_with fail
            go_ret
            exact ⟨ret_bool (pvB_no fun h => (HP.out.1 h.2 k hlt).2 H2.out).symm, hS2⟩
          · have i2 : decide (nth xs k ∈ List.drop 0 (xs.take k)) = false := decide_eq_false h2
            have H2 := Lib.hid h2
            clear h2
            have hHas := fun W (h : St w.heap.size w W []) => Lib.hid (l00Has_c (rsl v 0 k) _ (nth xs k) W (rsl_rd (h.oldI hv) (Nat.zero_le k) hk))
            rw [i2] at hHas
            go_wp2_with fail
            have hne : Nonempty (SS _ _ _) := ⟨⟨_, hS⟩⟩
            refine wp_region_st (by kernel_rfl) (by kernel_rfl) hS ?_
            repeat (go_big_quiet_step ((first | (go_at_call 55; exact st_quiet0 (l00In_c _ _ _ _)) | (go_at_call 71; exact st_quiet0 (hHas _ (SS.st _)).out))))
            refine wpQuiet_nil ?_
            rintro _ ⟨s2, rfl⟩
            have hS2 := s2.st
            generalize s2.w = w2 at hS2 ⊢
            go_wp2_with fail
            go_roundw
            case rel => exact ⟨k + 1, by omega, by go_num, fun j hj => by
              by_cases e : j = k
              · subst e; exact ⟨H1.out, H2.out⟩
              · exact hI.out j (by omega), hS2⟩
            case measure => simp [intOf]; omega
        · have i1 := inB_false h1
          have H1 := Lib.hid h1
          clear h1
          go_wp2_with fail
          have hne : Nonempty (SS _ _ _) := ⟨⟨_, hS⟩⟩
          refine wp_region_st (by kernel_rfl) (by kernel_rfl) hS ?_
          repeat (go_big_quiet_step ((go_at_call 55; exact st_quiet0 (l00In_c _ _ _ _))))
          refine wpQuiet_nil ?_
          rintro _ ⟨s2, rfl⟩
          have hS2 := s2.st
          generalize s2.w = w2 at hS2 ⊢
          go_wp2_with fail
          go_ret
          exact ⟨ret_bool (pvB_no fun h => H1.out (HP.out.1 h.2 k hlt).1).symm, hS2⟩
      · go_wp2_with fail
        go_ret
        exact ⟨ret_bool (pvB_yes (by omega) (HP.out.2 fun j hj => hI.out j (by omega))).symm, hS⟩
end Go.Proofs.Ytdgmaodnkbgolaa
end

section
/- Walks: permutations that are made and drawn; composition, inverses. Walks: composition and inverses of permutations. -/
namespace Go.Proofs.Ytdgmaodnkbgolaa
set_option linter.unusedSimpArgs false
set_option linter.unusedVariables false
open Go.RowKit
attribute [local go_sem ↓] Go.wp_at_zero Go.wp_at_succ


set_option maxHeartbeats 1000000 in
set_option maxRecDepth 100000 in
theorem l04One_c (n : Nat) (w : World) (hn : n ≤ 1000) : Calls Try.prog 42 #[.int .i64 n] w (MakesI w (iot n)) := by
  have hS0 : St w.heap.size w (w.alloc (.cells #[] 2)) [row 2 (.slice (some ⟨w.heap.size, 0, none⟩) 0 0) (iv [])] := (St.refl w).new 2 #[] (by simp)
  go_enter Try.func42, Try.ntmps42
  go_wp2_with fail
  go_loopw [3, 4] (fun o x wr => ∃ k : Nat, k ≤ n ∧ x = .int .i64 k ∧ St w.heap.size w wr [row 2 o (iv (iot k))]) (fun _ x _ => n - (intOf x).toNat)
  case atStart => exact ⟨0, by omega, rfl, hS0⟩
  case round =>
    obtain ⟨k, hk, rfl, hS⟩ := hrel
    have hkl := iot_len k
    by_cases hlt : k < n
    · go_wp2_with (at_builtin; refine appI hS 0 rfl (by omega) rfl _ _ rfl rfl _ rfl ?_; intro v2 w2 hS2)
      go_roundw
      case rel => exact ⟨k + 1, by omega, by go_num, by rw [iot_succ]; exact hS2⟩
      case measure => simp [intOf]; omega
    · obtain rfl : k = n := by omega
      go_wp2_with fail
      go_ret
      exact ⟨_, rfl, hS⟩
/-- a permutation of n numbers, and the source goes on -/
def PermS (w0 : World) (cv : Value) (g K n : Nat) (L : List Ent) (e : Ending) (w' : World) : Prop := ∃ v xs, e = .returned v ∧ xs.length = n ∧ IsP xs ∧ Src w0 w' cv g K (row 2 v (iv xs) :: L)
set_option maxHeartbeats 2000000 in
set_option maxRecDepth 100000 in
theorem l04DrawPerm_c (w0 w : World) (cv : Value) (bs : List UInt8) (g K : Nat) (L : List Ent) (n : Nat) (hb : RdB w0 cv bs) (h : Src w0 w cv g K L) (hK : K < 100000000000) (hn : n ≤ 1000) :
    Calls Try.prog 62 #[.pointer (some ⟨g, 0, none⟩), .int .i64 n] w (PermS w0 cv g (K + 2 * n) n L) := by
  go_enter Try.func62, Try.ntmps62
  go_wp2_with fail
  refine (l04One_c n w hn).mono ?_
  rintro e w1 ⟨u, rfl, h1⟩
  have h2 := (h.call h1).perm List.perm_append_comm
  simp only [List.cons_append, List.nil_append] at h2
  clear h h1
  go_wp2_with fail
  go_loopw [6, 7, 8] (fun x _ _ wr => ∃ (j : Nat) (xs : List Int), j ≤ n ∧ x = .int .i64 ((j : Int) - 1) ∧ Hid (xs.length = n) ∧ Hid (IsP xs) ∧ Src w0 wr cv g (K + 2 * (n - j)) (row 2 u (iv xs) :: L)) (fun x _ _ _ => (intOf x).toNat)
  case atStart => exact ⟨n, iot n, by omega, by go_num, iot_len n, iot_isP n, h2.mono (by omega)⟩
  case round =>
    clear h2
    obtain ⟨j, xs, hj, rfl, hl, hp, hs⟩ := hrel
    by_cases h2 : 2 ≤ j
    · go_wp2_with fail
      refine (pick_c w0 wr cv bs g _ _ _ hb hs (by omega)).mono ?_
      rintro e w2 ⟨x, x0, x1, rfl, h3⟩
      obtain ⟨y, rfl⟩ := Int.eq_ofNat_of_zero_le x0
      have hyj : y < j := by omega
      have hyk : y < n := by omega
      have hr := h3.rdI 0 rfl
      have hi1 := hr.ixe ((j : Int) - 1) (j - 1) (by omega) (by rw [hl.out]; omega)
      have hi2 := hr.ixe (y : Int) y rfl (by rw [hl.out]; omega)
      have hc1 := hr.cell (j - 1) (by rw [hl.out]; omega)
      have hc2 := hr.cell y (by rw [hl.out]; omega)
      have Hsw := Lib.hid (hp.out.swp (i := j - 1) (k := y) (by rw [hl.out]; omega) (by rw [hl.out]; omega))
      obtain ⟨pp, ss, s0, s1, hS⟩ := h3
      clear hr x1 x0 hs
      go_wp2_with (first
        | (refine stoI hS2 1 rfl y (by rw [List.length_set, hl.out]; exact hyk) rfl _ _ rfl rfl _ rfl ?_; intro w3 hS3)
        | (refine stoI hS 1 rfl (j - 1) (by rw [hl.out]; omega) rfl _ _ rfl rfl _ rfl ?_; intro w2 hS2))
      go_roundw
      case rel => exact ⟨j - 1, swp2 xs (j - 1) y, by omega, by go_num, by unfold Hid; rw [swp2_len]; exact hl.out, Hsw.out, pp, ss, s0, by omega, hS3⟩
      case measure => simp [intOf]; omega
    · go_wp2_with fail
      go_ret
      exact ⟨_, xs, rfl, hl.out, hp.out, hs.mono (by omega)⟩
/-- a list and a code -/
def MakesLK (w : World) (xs : List Int) (c : Int) (e : Ending) (w' : World) : Prop := ∃ v, e = .returned (.tuple #[v, .int .i64 c]) ∧ St w.heap.size w w' [row 2 v (iv xs)]
set_option maxHeartbeats 2000000 in
set_option maxRecDepth 100000 in
theorem compose_c (v u : Value) (xs ys : List Int) (w : World) (hv : RdI w v xs) (hu : RdI w u ys) (hp : IsP xs) (hl : xs.length = ys.length) (hN : xs.length ≤ 1000) :
    Calls Try.prog 33 #[v, u] w (MakesI w (cmpL xs ys)) := by
  have hlx := hv.len
  have hix := hv.ix
  have hiu := hu.ix
  have HP := Lib.hid hp
  have Hl := Lib.hid hl
  rw [← hl] at hiu
  clear hp hl
  go_enter Try.func33, Try.ntmps33
  go_wp2_with (at_make; refine mkI (St.refl w) rfl _ _ rfl _ _ xs.length rfl rfl (by omega) ?_; intro r w1 hS1; have hr := hS1.rdI 0 rfl; have hln := hr.len; have hir := hr.ix; simp only [List.length_replicate] at hln hir; clear hr)
  go_loopw [6, 12] (fun _ x wr => ∃ (k : Nat) (zs : List Int), k ≤ xs.length ∧ x = .int .i64 k ∧ Hid (zs.length = xs.length) ∧ Hid (∀ j, j < k → nth zs j = nth ys (pf xs j)) ∧ St w.heap.size w wr [row 2 r (iv zs)]) (fun _ x _ => xs.length - (intOf x).toNat)
  case atStart => exact ⟨0, _, by omega, rfl, by unfold Hid; simp, fun j hj => by omega, hS1⟩
  case round =>
    clear hS1
    obtain ⟨k, zs, hk, rfl, hz, hI, hS⟩ := hrel
    by_cases hlt : k < xs.length
    · have hck := (hS.oldI hv).cell k hlt
      have hpk := nth_pf HP.out hlt
      have hpl := HP.out.pf_lt hlt
      have hcu := (hS.oldI hu).cell (pf xs k) (by rw [← Hl.out]; exact hpl)
      rw [hpk] at hck
      clear hpk
      go_wp2_with (refine stoI hS 0 rfl k (by rw [hz.out]; exact hlt) rfl _ _ rfl rfl _ rfl ?_; intro w2 hS2)
      go_roundw
      case rel => exact ⟨k + 1, zs.set k (nth ys (pf xs k)), by omega, by go_num, by unfold Hid; rw [List.length_set]; exact hz.out, fun j hj => by
        rw [nth_set (by rw [hz.out]; exact hlt)]
        by_cases e : k = j
        · subst e; rw [if_pos rfl]
        · rw [if_neg e]; exact hI.out j (by omega), hS2⟩
      case measure => simp [intOf]; omega
    · obtain rfl : k = xs.length := by omega
      have he : zs = cmpL xs ys := nth_ext (by rw [cmpL_len]; exact hz.out) fun j hj => by rw [hz.out] at hj; rw [hI.out j hj, nth_cmpL hj]
      have He := Lib.hid he
      clear he
      go_wp2_with fail
      go_ret
      exact ⟨_, rfl, by rw [← He.out]; exact hS⟩
set_option maxHeartbeats 1000000 in
set_option maxRecDepth 100000 in
theorem ident_c (n : Nat) (w : World) (hn : n ≤ 1048576) : Calls Try.prog 49 #[.int .i64 n] w (MakesI w (iot n)) := by
  go_enter Try.func49, Try.ntmps49
  go_wp2_with (at_make; refine mkI (St.refl w) rfl _ _ rfl _ _ n rfl rfl (by omega) ?_; intro v1 w1 hS1; have hr := hS1.rdI 0 rfl; have hln := hr.len; have hix := hr.ix; simp only [List.length_replicate] at hln hix; clear hr)
  go_loopw [4, 9] (fun _ i wr => ∃ k : Nat, k ≤ n ∧ i = .int .i64 k ∧ St w.heap.size w wr [row 2 v1 (iv (iot k ++ List.replicate (n - k) 0))]) (fun _ i _ => n - (intOf i).toNat)
  case atStart => exact ⟨0, by omega, rfl, hS1⟩
  case round =>
    obtain ⟨k, hk, rfl, hS⟩ := hrel
    by_cases hlt : k < n
    · go_wp2_with (refine stoI hS 0 rfl k (by simp [iot]; omega) rfl _ _ rfl rfl _ rfl ?_; intro w2 hS2)
      go_roundw
      case rel =>
        refine ⟨k + 1, by omega, by go_num, ?_⟩
        have e : (iot k ++ List.replicate (n - k) 0).set k (k : Int) = iot (k + 1) ++ List.replicate (n - (k + 1)) 0 := by
          rw [List.set_append_right _ _ (by rw [iot_len]; omega), iot_len, show n - k = (n - (k + 1)) + 1 by omega, List.replicate_succ]
          simp [iot, List.range_succ]
        rw [← e]; exact hS2
      case measure => simp [intOf]; omega
    · obtain rfl : k = n := by omega
      go_wp2_with fail
      go_ret
      refine ⟨_, rfl, ?_⟩
      simpa using hS

end Go.Proofs.Ytdgmaodnkbgolaa
end

section
/- Walks: what permutations generate, by the reference. -/
namespace Go.Proofs.Ytdgmaodnkbgolaa
set_option linter.unusedSimpArgs false
set_option linter.unusedVariables false
open Go.RowKit
attribute [local go_sem ↓] Go.wp_at_zero Go.wp_at_succ

set_option maxHeartbeats 4000000 in
set_option maxRecDepth 100000 in
theorem l04TimesG_c (v u : Value) (xs ys : List Int) (w : World) (hv : RdI w v xs) (hu : RdI w u ys) (hp : IsP xs) (hl : xs.length = ys.length) (hN : xs.length ≤ 1000) :
    Calls Try.prog 63 #[v, u] w (MakesI w (cmpL xs ys)) := by
  have hlx := hv.len
  have hix := hv.ixe
  have hiu := hu.ixe
  rw [← hl] at hiu
  have hS0 : St w.heap.size w (w.alloc (.cells #[] 2)) [row 2 (.slice (some ⟨w.heap.size, 0, none⟩) 0 0) (iv ((cmpL xs ys).take 0))] := (St.refl w).new 2 #[] (by simp)
  have HT := fun j (hj : j < xs.length) => Lib.hid (show (cmpL xs ys).take (j + 1) = (cmpL xs ys).take j ++ [nth ys (pf xs j)] by rw [take_nth (by rw [cmpL_len]; exact hj), nth_cmpL hj])
  have HP := fun j (hj : j < xs.length) => Lib.hid (And.intro (nth_pf hp hj) (hp.pf_lt hj))
  have HE := Lib.hid (show (cmpL xs ys).take xs.length = cmpL xs ys by rw [← cmpL_len xs ys, List.take_length])
  have Hul := Lib.hid hl
  clear hl hp
  go_enter Try.func63, Try.ntmps63
  go_wp2_with fail
  go_loopw [5, 6] (fun o i wr => ∃ (j : Nat) (v2 : Value), v2 = o ∧ j ≤ xs.length ∧ i = .int .i64 j ∧ St w.heap.size w wr [row 2 v2 (iv ((cmpL xs ys).take j))]) (fun _ i _ => xs.length - (intOf i).toNat)
  case atStart => exact ⟨0, _, rfl, by omega, rfl, hS0⟩
  case round =>
    clear hS0
    obtain ⟨j, v2, rfl, hj, rfl, hS⟩ := hrel
    by_cases hlt : j < xs.length
    · have hji : (j : Int) < (xs.length : Int) := by omega
      obtain ⟨e1, e2⟩ := (HP j hlt).out
      have c1 := (hS.oldI hv).cell j hlt
      rw [e1] at c1
      have c2 := (hS.oldI hu).cell (pf xs j) (by rw [← Hul.out]; exact e2)
      have x1 := hix (j : Int) j rfl hlt
      have x2 := hiu ((pf xs j : Nat) : Int) (pf xs j) rfl e2
      have HT := HT j hlt
      have hN2 := Lib.hid (show ((cmpL xs ys).take j).length < 4294967296 by rw [List.length_take]; omega)
      generalize pf xs j = k at *
      clear e1
      go_wp2_with (at_builtin; refine appI hS 0 rfl hN2.out rfl _ _ rfl rfl _ rfl ?_; intro v5 w5 hS5; simp only [List.set_cons_zero] at hS5)
      rw [← HT.out] at hS5
      go_roundw
      case rel => exact ⟨j + 1, _, rfl, by omega, by go_num, hS5⟩
      case measure => simp [intOf]; omega
    · obtain rfl : j = xs.length := by omega
      rw [HE.out] at hS
      go_wp2_with fail
      go_ret
      exact ⟨_, rfl, hS⟩
/-- all that is generated, or too much -/
def MakesSC (w : World) (n : Nat) (S : List (List Int)) (most : Nat) (e : Ending) (w' : World) : Prop :=
  (∃ v us R, e = .returned (.tuple #[v, .bool true]) ∧ RII w' v us R ∧ ClO n S R ∧ R.length ≤ most ∧ St w.heap.size w w' []) ∨
  (e = .returned (.tuple #[.slice none 0 0, .bool false]) ∧ (∀ A, Grp n A → (∀ g ∈ S, g ∈ A) → most < A.length) ∧ St w.heap.size w w' [])
/-- an ordered list with the members of the queue -/
structure ScI (n : Nat) (S L Q : List (List Int)) (i k most : Nat) : Prop where
  bf : Bfs n S Q i k
  str : StrA L
  mem : ∀ p, p ∈ L ↔ p ∈ Q
  len : L.length = Q.length
  le : L.length ≤ most
section
variable {n i k most m : Nat} {S L Q : List (List Int)}
theorem ScI.fin (h : ScI n S L Q Q.length 0 most) : ClO n S L := ⟨h.str, fun p => by
  have := h.bf.fin.2 p
  rw [(srtL_perm Q).mem_iff] at this
  rw [h.mem p]; exact this⟩
theorem ScI.new (h : ScI n S L Q i k most) (hi : i < Q.length) (hk : k < S.length) {p : List Int} (hp : cmpL (xat Q i) (xat S k) = p) (hf : FndP L p m false) (hm : m ≤ L.length) (hne : L.length ≠ most) : ScI n S (insA L m p) (Q ++ [p]) i (k + 1) most := by
  have hpL : p ∉ L := fun q => by have := (hf.mem h.str q).1; cases this
  have hpQ : cmpL (xat Q i) (xat S k) ∉ Q := by rw [hp, ← h.mem]; exact hpL
  refine ⟨by have := h.bf.new hi hk hpQ; rwa [hp] at this, hf.ins h.str, fun q => ?_, by rw [insA_len hm, List.length_append, h.len]; rfl, by rw [insA_len hm]; have := h.le; omega⟩
  rw [insA_mem, List.mem_append, List.mem_singleton, h.mem]
  exact Or.comm
theorem ScI.big (h : ScI n S L Q i k most) (hi : i < Q.length) (hk : k < S.length) {p : List Int} (hp : cmpL (xat Q i) (xat S k) = p) (hpL : p ∉ L) (he : L.length = most) : ∀ A, Grp n A → (∀ g ∈ S, g ∈ A) → most < A.length := fun A hA hS => by
  have hnd : (p :: L).Nodup := List.nodup_cons.2 ⟨hpL, h.str.nodup⟩
  have := hnd.length_le_of_subset (l₂ := A) (by
    intro q hq
    rcases List.mem_cons.1 hq with rfl | hq
    · rw [← hp]; exact hA.gen hS ((h.bf.gen _ (xat_mem hi)).mul (xat_mem hk))
    · exact hA.gen hS (h.bf.gen q ((h.mem q).1 hq)))
  rw [List.length_cons] at this; omega
end
end Go.Proofs.Ytdgmaodnkbgolaa
end

section
/- make inside a region that draws its order. A region that loads cells and writes them by its last stores: what is held of the world is asked until the first of these stores alone. A region that loads cells and writes them at its end: an operation taken first, by a chain of operations that wait for each other. -/
namespace Go.Proofs.Ytdgmaodnkbgolaa
set_option linter.unusedSimpArgs false
set_option linter.unusedVariables false
open Go.RowKit
theorem cell_al {w : World} {o : Obj} {a : Addr} {v : Value} (h : w.cell? a = some v) : (w.alloc o).cell? a = some v := by
  rw [World.cell?_alloc_some _ _ _ (by rw [h]; rfl)]; exact h
theorem cell_dr {w : World} {a : Addr} {v : Value} (h : w.cell? a = some v) : w.drew.cell? a = some v := h
theorem cell_sc {w : World} {p a : Addr} {u v : Value} (hp : p.block ≠ a.block) (h : w.cell? a = some v) : (w.setCell p u).cell? a = some v := by
  rw [World.cell?_setCell_far _ _ _ _ hp]; exact h
section
variable {P : Program} {ops : Array Oper} {o : Oper} {a : Act} {K : Act → World → Prop} {Q : Exit → Act → World → Prop} {E : Prop}
end
section
variable {ops : Array Oper} {o : Oper} {a : Act} {K : Act → World → Prop} {Q : Exit → Act → World → Prop} {E : Prop} {B : Nat} {w0 w : World} {L : List Ent}
end

section
variable {P : Program} {ops : Array Oper} {Q : Exit → Act → World → Prop} {md : Region.Mode} {S : World → Prop} {st : Nat}

/-- whichever order is picked; S is shown behind every operation till operation st has come up -/
def anyG (P : Program) (md : Region.Mode) (ops : Array Oper) (Q : Exit → Act → World → Prop) (S : World → Prop) (st : Nat) : Nat → Array Bool → Act → World → Prop
  | 0, listed, a, w => Region.ready md ops listed = [] ∧ Q .normal a w
  | n + 1, listed, a, w => (Region.ready md ops listed = [] → Q .normal a w) ∧
    ∀ i ∈ Region.ready md ops listed, wpOp P ops Q i (fun a' w' => ((listed.setIfInBounds i true).getD st true = false → S w') ∧ anyG P md ops Q S st n (listed.setIfInBounds i true) a' w') a w

theorem wpAny_of_G : ∀ (n : Nat) (listed : Array Bool) (a : Act) (w : World), anyG P md ops Q S st n listed a w → wpAny P md ops Q n listed a w
  | 0, _, _, _, h => h
  | n + 1, _, _, _, h => ⟨h.1, fun i hi => wpOp_mono (fun a' w' h' => wpAny_of_G n _ a' w' h'.2) (h.2 i hi)⟩

theorem set_un {listed : Array Bool} {j k : Nat} (hne : j ≠ k) (h : listed.getD k true = false) : (listed.setIfInBounds j true).getD k true = false := by rw [getD_set_ne true hne]; exact h
/-- what waits for an operation that has not come up cannot come up -/
theorem not_ready {listed : Array Bool} {j k : Nat} (hk : listed.getD k true = false) (hw : ∃ o, ops[j]? = some o ∧ ∃ e ∈ o.after, Region.binds md e = true ∧ e.on = k) : j ∉ Region.ready md ops listed := by
  intro h
  obtain ⟨_, o, ho, hall⟩ := mem_ready.1 h
  obtain ⟨o', ho', e, he, hb, rfl⟩ := hw
  rw [ho] at ho'; cases ho'
  have h1 := hall e he hb
  rcases Nat.lt_or_ge e.on listed.size with h' | h'
  · simp [h'] at hk h1; rw [hk] at h1; cases h1
  · simp [Array.getElem?_eq_none h'] at h1

/-- an operation that yields in whatever world may be taken first -/
theorem anyG_pure {i : Nat} {oi : Oper} {v : Value} (hi : ops[i]? = some oi) (hsel : ∀ (j : Nat) (o : Oper) cs b, ops[j]? = some o → o.op ≠ .select cs b)
    (hQ : ∀ c a w, Q (.panic c) (a.put oi.dst v) w → Q (.panic c) a w) (hne : i ≠ st) :
    ∀ (n : Nat) (listed : Array Bool) (a : Act) (w : World),
      (∀ j oj, ops[j]? = some oj → j ≠ i → listed.getD j true = false → (∀ e ∈ oj.after, Region.binds md e = true → e.on ≠ i) → oi.apart ops oj = true) →
      i ∈ Region.ready md ops listed → YieldsIf P ops (fun _ => True) oi v a → (listed.getD st true = false → S w) →
      anyG P md ops Q S st n (listed.setIfInBounds i true) (a.put oi.dst v) w → anyG P md ops Q S st (n + 1) listed a w := by
  intro n
  induction n with
  | zero =>
    intro listed a w _ hr hy hS H
    refine ⟨fun h => (by rw [h] at hr; cases hr), fun j hj => ?_⟩
    by_cases hji : j = i
    · subst hji; exact hy.wpOp hi trivial ⟨fun e => hS (by rwa [getD_set_ne true hne] at e), H⟩
    · have := ready_mono hj hji
      rw [H.1] at this
      cases this
  | succ n ih =>
    intro listed a w hfree hr hy hS H
    have hiu : listed.getD i true = false := (mem_ready.1 hr).1
    refine ⟨fun h => (by rw [h] at hr; cases hr), fun j hj => ?_⟩
    by_cases hji : j = i
    · subst hji; exact hy.wpOp hi trivial ⟨fun e => hS (by rwa [getD_set_ne true hne] at e), H⟩
    · have h1 := H.2 j (ready_mono hj hji)
      obtain ⟨hjun, oj, hoj, hall⟩ := mem_ready.1 hj
      have hnot : ∀ e ∈ oj.after, Region.binds md e = true → e.on ≠ i := fun e he hb heq => not_ready hiu ⟨oj, hoj, e, he, hb, heq⟩ hj
      have h2 := wpOp_putIf hoj (hfree j oj hoj hji hjun hnot) (fun cs b => hsel i oi cs b hi) (fun cs b => hsel j oj cs b hoj) hQ hy h1
      refine wpOp_mono (fun a' w' h3 => ?_) h2
      have hSw : (listed.setIfInBounds j true).getD st true = false → S w' := fun e => h3.2.1 (by rw [Array.setIfInBounds_comm _ _ (Ne.symm hji), getD_set_ne true hne]; exact e)
      refine ⟨hSw, ih (listed.setIfInBounds j true) a' w' ?_ (ready_mono hr (Ne.symm hji)) h3.1 hSw ?_⟩
      · intro m om hm hmi hun hno
        refine hfree m om hm hmi ?_ hno
        by_cases hjm : j = m
        · subst hjm; exact hjun
        · rwa [getD_set_ne true hjm] at hun
      · rw [Array.setIfInBounds_comm _ _ hji]
        exact h3.2.2
/-- number i is taken first, whatever the world -/
theorem takeP {i : Nat} {oi : Oper} {v : Value} {n : Nat} {listed : Array Bool} {a : Act} {w : World} (hi : ops[i]? = some oi)
    (hs : (Region.noSelect ops && Region.free md ops listed i && (Region.ready md ops listed).contains i && (!(i == st))) = true)
    (hQ : ∀ c a w, Q (.panic c) (a.put oi.dst v) w → Q (.panic c) a w) (hw : Region.wanted oi (yielded ops a.tmps) = true) (hy : ∀ w, (execOp a.eval oi).run P w = .ok (.value v) w) (hS : S w)
    (h : anyG P md ops Q S st n (listed.setIfInBounds i true) (a.put oi.dst v) w) : anyG P md ops Q S st (n + 1) listed a w := by
  simp only [Bool.and_eq_true, Bool.not_eq_true', beq_eq_false_iff_ne] at hs
  obtain ⟨⟨⟨h1, h2⟩, h3⟩, h4⟩ := hs
  exact anyG_pure hi (Region.noSelect_spec h1) hQ h4 n listed a w (Region.free_spec hi h2) (by simpa using h3) (.inl ⟨hw, fun w _ => hy w⟩) (fun _ => hS) h

def waits (md : Region.Mode) (ops : Array Oper) (j k : Nat) : Bool := match ops[j]? with
  | some o => o.after.any fun e => Region.binds md e && e.on == k
  | none => false
theorem waits_spec {j k : Nat} (h : waits md ops j k = true) : ∃ o, ops[j]? = some o ∧ ∃ e ∈ o.after, Region.binds md e = true ∧ e.on = k := by
  unfold waits at h
  cases ho : ops[j]? with
  | none => rw [ho] at h; cases h
  | some o =>
    rw [ho] at h
    simp only [Array.any_eq_true', Bool.and_eq_true, beq_iff_eq] at h
    obtain ⟨e, he, hb, hk⟩ := h
    exact ⟨o, rfl, e, he, hb, hk⟩
def AllG (P : Program) (md : Region.Mode) (ops : Array Oper) (Q : Exit → Act → World → Prop) (S : World → Prop) (st n : Nat) (listed : Array Bool) (a : Act) (w : World) (rs : List Nat) : Prop :=
  ∀ i ∈ rs, wpOp P ops Q i (fun a' w' => ((listed.setIfInBounds i true).getD st true = false → S w') ∧ anyG P md ops Q S st n (listed.setIfInBounds i true) a' w') a w
theorem AllG.nil {n : Nat} {listed : Array Bool} {a : Act} {w : World} : AllG P md ops Q S st n listed a w [] := fun _ h => by cases h
/-- an operation ahead of st -/
theorem AllG.cons {n : Nat} {listed : Array Bool} {a : Act} {w : World} {i : Nat} {o : Oper} {rs : List Nat} (ho : ops[i]? = some o)
    (h : ∀ K' : Act → World → Prop, Shut (∀ a w, S w → (S w → anyG P md ops Q S st n (listed.setIfInBounds i true) a w) → K' a w) → if Region.wanted o (yielded ops a.tmps) = true then Oper.wp P o a w K' Q else K' (a.put o.dst undef) w)
    (hs : AllG P md ops Q S st n listed a w rs) : AllG P md ops Q S st n listed a w (i :: rs) := fun j hj => by
  rcases List.mem_cons.1 hj with rfl | hj
  · exact wpOp_step ho (fun K' hK => h K' (fun a w hS hW => hK a w ⟨fun _ => hS, hW hS⟩))
  · exact hs j hj
/-- st itself, or one behind it -/
theorem AllG.last {n : Nat} {listed : Array Bool} {a : Act} {w : World} {i : Nat} {o : Oper} {rs : List Nat} (ho : ops[i]? = some o) (hl : (listed.setIfInBounds i true).getD st true = true)
    (h : ∀ K' : Act → World → Prop, Shut (∀ a w, anyG P md ops Q S st n (listed.setIfInBounds i true) a w → K' a w) → if Region.wanted o (yielded ops a.tmps) = true then Oper.wp P o a w K' Q else K' (a.put o.dst undef) w)
    (hs : AllG P md ops Q S st n listed a w rs) : AllG P md ops Q S st n listed a w (i :: rs) := fun j hj => by
  rcases List.mem_cons.1 hj with rfl | hj
  · exact wpOp_step ho (fun K' hK => h K' (fun a w hW => hK a w ⟨fun e => (by rw [hl] at e; cases e), hW⟩))
  · exact hs j hj
theorem readyG {rs : List Nat} {n : Nat} {listed : Array Bool} {a : Act} {w : World} (hr : Region.ready md ops listed = rs) (hne : rs ≠ [])
    (h : AllG P md ops Q S st n listed a w rs) : anyG P md ops Q S st (n + 1) listed a w := ⟨fun h0 => absurd (hr ▸ h0) hne, hr ▸ h⟩
theorem doneG {listed : Array Bool} {a : Act} {w : World} (hr : Region.ready md ops listed = []) (h : Q .normal a w) : ∀ n, anyG P md ops Q S st n listed a w
  | 0 => ⟨hr, h⟩
  | _ + 1 => ⟨fun _ => h, by rw [hr]; simp⟩
/-- the beginning -/
theorem regionG {id : Nat} {a : Act} {w : World} (S : World → Prop) (st : Nat) (hm : P.follows .mixedOrders = true) (hS : S w.drew)
    (h : S w.drew → anyG P .any ops (NoPanic Q) S st ops.size (Array.replicate ops.size false) a w.drew) : (Code.region id ops true).wp P Q a w :=
  wp_region_noPanic (wp_region_any hm (wpAny_of_G _ _ _ _ (h hS)))
end

section
variable {P : Program} {ops : Array Oper} {Q : Exit → Act → World → Prop} {md : Region.Mode} {S : World → Prop} {st : Nat}
theorem anyG_firstL {i : Nat} {oi : Oper} {v : Value} (ks : List Nat) (hi : ops[i]? = some oi) (hsel : ∀ (j : Nat) (o : Oper) cs b, ops[j]? = some o → o.op ≠ .select cs b)
    (hQ : ∀ c a w, Q (.panic c) (a.put oi.dst v) w → Q (.panic c) a w)
    (hks : ∀ k ∈ ks, k = i ∨ ∃ m ∈ i :: ks, ∃ o, ops[k]? = some o ∧ ∃ e ∈ o.after, Region.binds md e = true ∧ e.on = m) (hst : ∃ m ∈ i :: ks, ∃ o, ops[st]? = some o ∧ ∃ e ∈ o.after, Region.binds md e = true ∧ e.on = m) :
    ∀ (n : Nat) (listed : Array Bool) (a : Act) (w : World), (∀ k ∈ ks, listed.getD k true = false) → listed.getD st true = false →
      (∀ j oj, ops[j]? = some oj → j ≠ i → listed.getD j true = false → (∀ e ∈ oj.after, Region.binds md e = true → e.on ≠ i) → oi.apart ops oj = true) →
      i ∈ Region.ready md ops listed → YieldsIf P ops S oi v a → S w →
      anyG P md ops Q S st n (listed.setIfInBounds i true) (a.put oi.dst v) w → anyG P md ops Q S st (n + 1) listed a w := by
  intro n
  induction n with
  | zero =>
    intro listed a w hk hs _ hr hy hS H
    refine ⟨fun h => (by rw [h] at hr; cases hr), fun j hj => ?_⟩
    by_cases hji : j = i
    · subst hji; exact hy.wpOp hi hS ⟨fun _ => hS, H⟩
    · have := ready_mono hj hji
      rw [H.1] at this
      cases this
  | succ n ih =>
    intro listed a w hk hs hfree hr hy hS H
    have hiu : listed.getD i true = false := (mem_ready.1 hr).1
    have hun : ∀ m ∈ i :: ks, listed.getD m true = false := fun m hm => by
      rcases List.mem_cons.1 hm with rfl | hm
      · exact hiu
      · exact hk m hm
    refine ⟨fun h => (by rw [h] at hr; cases hr), fun j hj => ?_⟩
    by_cases hji : j = i
    · subst hji; exact hy.wpOp hi hS ⟨fun _ => hS, H⟩
    · have hjk : j ∉ ks := by
        intro hjm
        rcases hks j hjm with e | ⟨m, hm, hw⟩
        · exact hji e
        · exact not_ready (hun m hm) hw hj
      obtain ⟨ms, hms, hws⟩ := hst
      have hjs : j ≠ st := by
        rintro rfl
        exact not_ready (hun ms hms) hws hj
      have h1 := H.2 j (ready_mono hj hji)
      obtain ⟨hjun, oj, hoj, hall⟩ := mem_ready.1 hj
      have hnot : ∀ e ∈ oj.after, Region.binds md e = true → e.on ≠ i := fun e he hb heq => not_ready hiu ⟨oj, hoj, e, he, hb, heq⟩ hj
      have h2 := wpOp_putIf hoj (hfree j oj hoj hji hjun hnot) (fun cs b => hsel i oi cs b hi) (fun cs b => hsel j oj cs b hoj) hQ hy h1
      have hsj : (listed.setIfInBounds j true).getD st true = false := set_un hjs hs
      refine wpOp_mono (fun a' w' h3 => ?_) h2
      have hSw : S w' := h3.2.1 (set_un hjs (set_un (fun e => by subst e; exact not_ready (hun ms hms) hws hr) hs))
      refine ⟨fun _ => hSw, ih (listed.setIfInBounds j true) a' w' (fun k hkm => set_un (fun e => hjk (e ▸ hkm)) (hk k hkm)) hsj ?_ (ready_mono hr (Ne.symm hji)) h3.1 hSw ?_⟩
      · intro m om hm hmi hun hno
        refine hfree m om hm hmi ?_ hno
        by_cases hjm : j = m
        · subst hjm; exact hjun
        · rwa [getD_set_ne true hjm] at hun
      · rw [Array.setIfInBounds_comm _ _ hji]
        exact h3.2.2
/-- number i is taken first; ks: operations that wait for it, for each other, and st for one of them -/
theorem takeH {i : Nat} (ks : List Nat) {oi : Oper} {v : Value} {n : Nat} {listed : Array Bool} {a : Act} {w : World} (hi : ops[i]? = some oi)
    (hs : (Region.noSelect ops && Region.free md ops listed i && (Region.ready md ops listed).contains i && (ks.all fun k => k == i || (i :: ks).any fun m => waits md ops k m) && ((i :: ks).any fun m => waits md ops st m) && (ks.all fun k => !listed.getD k true) && (!listed.getD st true)) = true)
    (hQ : ∀ c a w, Q (.panic c) (a.put oi.dst v) w → Q (.panic c) a w) (hw : Region.wanted oi (yielded ops a.tmps) = true) (hy : ∀ w, S w → (execOp a.eval oi).run P w = .ok (.value v) w) (hS : S w)
    (h : anyG P md ops Q S st n (listed.setIfInBounds i true) (a.put oi.dst v) w) : anyG P md ops Q S st (n + 1) listed a w := by
  simp only [Bool.and_eq_true, Bool.not_eq_true', Bool.or_eq_true, beq_iff_eq, List.all_eq_true] at hs
  obtain ⟨⟨⟨⟨⟨⟨h1, h2⟩, h3⟩, h4⟩, h5⟩, h6⟩, h7⟩ := hs
  refine anyG_firstL ks hi (Region.noSelect_spec h1) hQ (fun k hk => ?_) ?_ n listed a w h6 h7 (Region.free_spec hi h2) (by simpa using h3) (.inl ⟨hw, hy⟩) hS h
  · rcases h4 k hk with e | e
    · exact .inl e
    · obtain ⟨m, hm, hmw⟩ := List.any_eq_true.1 e
      exact .inr ⟨m, hm, waits_spec hmw⟩
  · obtain ⟨m, hm, hmw⟩ := List.any_eq_true.1 h5
    exact ⟨m, hm, waits_spec hmw⟩
end

end Go.Proofs.Ytdgmaodnkbgolaa
end

section
/- Walks: what permutations generate, by the reference: the walk. -/
namespace Go.Proofs.Ytdgmaodnkbgolaa
set_option linter.unusedSimpArgs false
set_option linter.unusedVariables false
open Go.RowKit
attribute [local go_sem ↓] Go.wp_at_zero Go.wp_at_succ

theorem ins_rows {Pd : Value → List Int → Prop} {ul : List Value} {L : List (List Int)} {vp : Value} {p : List Int} {m : Nat} (hl : ul.length = L.length) (h : ∀ j, j < L.length → Pd (vat ul j) (xat L j)) (hp : Pd vp p) (hm : m ≤ L.length) :
    ∀ j, j < (insA L m p).length → Pd (vat (ul.take m ++ [vp] ++ ul.drop m) j) (xat (insA L m p) j) := fun j hj => by
  rw [insA_len hm] at hj
  unfold insA vat xat
  rw [ins_getD _ _ _ (by omega), ins_getD _ _ _ hm]
  by_cases h1 : j < m
  · rw [if_pos h1, if_pos h1]; exact h j (by omega)
  · rw [if_neg h1, if_neg h1]
    by_cases h2 : j = m
    · rw [if_pos h2, if_pos h2]; exact hp
    · rw [if_neg h2, if_neg h2]; exact h (j - 1) (by omega)
theorem app_rows {Pd : Value → List Int → Prop} {ul : List Value} {L : List (List Int)} {vp : Value} {p : List Int} (hl : ul.length = L.length) (h : ∀ j, j < L.length → Pd (vat ul j) (xat L j)) (hp : Pd vp p) :
    ∀ j, j < (L ++ [p]).length → Pd (vat (ul ++ [vp]) j) (xat (L ++ [p]) j) := fun j hj => by
  rw [List.length_append, List.length_singleton] at hj
  by_cases e : j < L.length
  · rw [xat_appL e, show vat (ul ++ [vp]) j = vat ul j from by
      unfold vat; rw [List.getD_eq_getElem?_getD, List.getElem?_append_left (by omega), ← List.getD_eq_getElem?_getD]]
    exact h j e
  · obtain rfl : j = L.length := by omega
    rw [show xat (L ++ [p]) L.length = p from by unfold xat; simp, show vat (ul ++ [vp]) L.length = vp from by rw [← hl]; unfold vat; simp]
    exact hp
theorem cell_keepS {w w' : World} (hb : Below w.heap.size w w') {p : Addr} {u : Value} (h : w.cell? p = some u) : w'.cell? p = some u := by
  rw [hb.cell (World.block_lt_of_cell? _ _ h)]; exact h
/-- what the loops know -/
def ScR (w : World) (n : Nat) (S L Q : List (List Int)) (i k most : Nat) (ul uq : List Value) (N : List Ent) : Prop :=
  ScI n S L Q i k most ∧ ul.length = L.length ∧ uq.length = Q.length ∧ ∀ W, St w.heap.size w W N → (∀ j, j < L.length → RdI W (vat ul j) (xat L j)) ∧ (∀ j, j < Q.length → RdI W (vat uq j) (xat Q j))
set_option maxHeartbeats 32000000 in
set_option maxRecDepth 100000 in
theorem l05Close_c (n most : Nat) (vg : Value) (ug : List Value) (S : List (List Int)) (w : World) (hv : RII w vg ug S) (hS : ∀ g ∈ S, Prm n g) (hn : n ≤ 32) (hm1 : 1 ≤ most) (hm2 : most ≤ 1000) :
    Calls Try.prog 41 #[.int .i64 n, vg, .int .i64 most] w (MakesSC w n S most) := by
  have hlng := hv.len
  have hixg := hv.ixe
  have hSl := hv.le
  have KO := Lib.hid (fun W => l04One_c n W (by omega))
  have Hv := Lib.hid hv
  have HS := Lib.hid hS
  clear hv hS
  go_enter Try.func41, Try.ntmps41
  go_wp2_with fail
  refine (KO.out _).mono ?_
  clear KO
  rintro e w1 ⟨v1, rfl, h1⟩
  obtain ⟨a1, c1, hsh⟩ := (h1.rdI 0 rfl).sl.sh
  rw [iv_len, iot_len] at hsh
  subst hsh
  have hS3 := ((h1.new 32 #[.slice a1 n c1] (by simp [maxLen])).new 32 #[.slice a1 n c1] (by simp [maxLen]))
  simp only [World.size_alloc] at hS3
  have hS4 := hS3.perm (L' := row 32 (.slice (some ⟨w1.heap.size, 0, none⟩) 1 1) [.slice a1 n c1] :: row 32 (.slice (some ⟨w1.heap.size + 1, 0, none⟩) 1 1) [.slice a1 n c1] :: [row 2 (.slice a1 n c1) (iv (iot n))]) (by
    show [_, _, _].Perm [_, _, _]
    exact (List.Perm.swap _ _ _).trans (List.Perm.cons _ (List.Perm.swap _ _ _)))
  have HI0 : Hid (ScR w n S [iot n] [iot n] 0 0 most [.slice a1 n c1] [.slice a1 n c1] [row 2 (.slice a1 n c1) (iv (iot n))]) := Lib.hid ⟨⟨Bfs.start n S, by unfold StrA; simp, fun p => Iff.rfl, rfl, hm1⟩, rfl, rfl, fun W h => by
    have hr : RdI W (.slice a1 n c1) (iot n) := h.rdI 0 rfl
    refine ⟨fun j hj => ?_, fun j hj => ?_⟩ <;> (obtain rfl : j = 0 := by simpa using hj) <;> exact hr⟩
  clear h1 hS3
  go_wp2_with fail
  go_loopw [9, 10, 11, 12, 13, 14, 15] (fun vl vq ii _ _ _ _ wr => ∃ (i : Nat) (ul uq : List Value) (N : List Ent) (L Q : List (List Int)), ii = .int .i64 i ∧ Hid (ScR w n S L Q i 0 most ul uq N) ∧ St w.heap.size w wr (row 32 vl ul :: row 32 vq uq :: N)) (fun _ _ ii _ _ _ _ _ => most + 1 - (intOf ii).toNat)
  case atStart => exact ⟨0, _, _, _, _, _, rfl, HI0, hS4⟩
  case round =>
    clear HI0 hS4
    obtain ⟨i, ul, uq, N, L, Q, rfl, hI, hS⟩ := hrel
    have hLm := hI.out.1.le
    have hLQ := hI.out.1.len
    have hlq := fun (ty : TypeId) (W : World) => run_len_sl (P := Try.prog) (hS.rd 1 (e := 32) rfl).sl 24 ty Try.und_iss W
    rw [hI.out.2.2.1] at hlq
    by_cases hiQ : i < Q.length
    · have hii : (i : Int) < (Q.length : Int) := by omega
      have HI1 : Hid (ScR w n S L Q i 0 most ul uq N ∧ i < Q.length) := Lib.hid ⟨hI.out, hiQ⟩
      have him : i < most := by omega
      clear hI hLQ
      go_wp2_with fail
      clear hlq
      go_loopw [9, 10, 12, 13, 14, 15] (fun vl vq ki _ _ _ wr => ∃ (k : Nat) (ul uq : List Value) (N : List Ent) (L Q : List (List Int)), ki = .int .i64 k ∧ k ≤ S.length ∧ Hid (ScR w n S L Q i k most ul uq N ∧ i < Q.length) ∧ St w.heap.size w wr (row 32 vl ul :: row 32 vq uq :: N)) (fun _ _ ki _ _ _ _ => S.length - (intOf ki).toNat)
      case atStart => exact ⟨0, ul, uq, N, L, Q, rfl, by omega, HI1, hS⟩
      case round =>
        clear HI1 hS hLm hiQ hii
        obtain ⟨k, ul, uq, N, L, Q, rfl, hk, hI, hS⟩ := hrel
        have hiQ := hI.out.2
        have hLm := hI.out.1.1.le
        by_cases hkS : k < S.length
        · have hki : (k : Int) < (S.length : Int) := by omega
          have xg := hixg (k : Int) k rfl hkS
          have cg := (hS.oldII Hv.out).cell k hkS
          have xq := run_ix_sl (P := Try.prog) (hS.rd 1 (e := 32) rfl).sl 24 Try.und_iss Try.size_is .i64 (i : Int) (by omega) (by rw [hI.out.1.2.2.1]; omega)
          rw [Int.toNat_natCast] at xq
          have cq := (hS.rd 1 (e := 32) rfl).cell (i := i) (by rw [hI.out.1.2.2.1]; exact hiQ)
          rw [show uq.getD i undef = vat uq i from rfl] at cq
          have hN0 := hS.drew.sub (L' := N) ((List.sublist_cons_self _ _).trans (List.sublist_cons_self _ _))
          have hpS := HS.out _ (xat_mem hkS)
          have hpQ := (hI.out.1.1.bf.gen _ (xat_mem hiQ)).prm HS.out
          have KT := Lib.hid (l04TimesG_c (vat uq i) (vat ug k) (xat Q i) (xat S k) _ ((hI.out.1.2.2.2 _ hN0).2 i hiQ) ((hS.drew.oldII Hv.out).row k hkS) hpQ.1 (by rw [hpQ.2, hpS.2]) (by rw [hpQ.2]; omega))
          have hpp := hpQ.cmp hpS
          obtain ⟨p, hp⟩ : ∃ p, cmpL (xat Q i) (xat S k) = p := ⟨_, rfl⟩
          rw [hp] at KT hpp
          have Hp := Lib.hid hp
          have hSd := hS.drew
          have hplen := Lib.hid hpp.2
          clear hp hN0 hpS hpQ hpp
          go_wp2_with fail
          go_region_held3 (fun w' => w'.cell? (el u10 i) = some (vat uq i) ∧ w'.cell? (el vg k) = some (vat ug k)) (((try dsimp only); (repeat' apply And.intro); all_goals (repeat (first | assumption | exact cell_dr (by assumption) | refine cell_dr ?_ | refine cell_al ?_ | refine cell_sc (by assumption) ?_)))) (first
            | (go_at_call 63; refine KT.out.mono ?_; rintro e6 w6 ⟨vp, rfl, h6⟩; have hS6 := hSd.call h6; have cq := cell_keepS h6.below (cell_dr cq); have cg := cell_keepS h6.below (cell_dr cg)))
          have r6 := h6.rdI 0 rfl
          obtain ⟨ap, cp, hsh⟩ := r6.sl.sh
          rw [iv_len, hplen.out] at hsh
          subst hsh
          have hNN := Lib.hid (fun W (h : St w.heap.size w W (N ++ [row 2 (.slice ap n cp) (iv p)])) => (show (∀ j, j < L.length → RdI W (vat ul j) (xat L j)) ∧ (∀ j, j < Q.length → RdI W (vat uq j) (xat Q j)) ∧ RdI W (.slice ap n cp) p from
            ⟨(hI.out.1.2.2.2 W (h.sub (List.sublist_append_left _ _))).1, (hI.out.1.2.2.2 W (h.sub (List.sublist_append_left _ _))).2, (h.sub (List.sublist_append_right _ _)).rdI 0 rfl⟩))
          have hS7 := hS6.perm (L' := row 32 u9 ul :: row 32 u10 uq :: (N ++ [row 2 (.slice ap n cp) (iv p)])) (List.Perm.refl _)
          have hN7 := hNN.out _ (hS7.sub ((List.sublist_cons_self _ _).trans (List.sublist_cons_self _ _)))
          have hRL : RII w6 u9 ul L := ⟨hS7.rd 0 rfl, hI.out.1.2.1, hN7.1⟩
          have hlL := hRL.len
          have KF := Lib.hid (l05Find_c u9 (.slice ap n cp) ul L p w6 hRL hN7.2.2 (by omega))
          clear hS hSd KT h6 r6 hS6 cq cg xg xq
          go_wp2_with fail
          refine KF.out.mono ?_
          clear KF
          rintro e7 w7 ⟨m, b, rfl, hf, h7⟩
          have hS8 := hS7.call0 h7
          have hmL := hf.1
          have HF := Lib.hid hf
          clear hS7 h7 hf hRL hN7
          cases b
          · by_cases hmost : L.length = most
            · have fm : ((L.length : Int) == (most : Int)) = true := eq_t (by omega)
              have hbig := Lib.hid (hI.out.1.1.big hiQ hkS Hp.out (fun q => by have := (HF.out.mem hI.out.1.1.str q).1; cases this) hmost)
              clear hmost
              go_wp2_with fail
              go_ret2
              exact .inr ⟨rfl, hbig.out, hS8.out⟩
            · have fm : ((L.length : Int) == (most : Int)) = false := eq_f (by omega)
              have hnew := Lib.hid (hI.out.1.1.new hiQ hkS Hp.out HF.out hmL hmost)
              have hN8 := hNN.out _ (hS8.sub ((List.sublist_cons_self _ _).trans (List.sublist_cons_self _ _)))
              have KP := Lib.hid (l05Put_c u9 (.slice ap n cp) ul L p m w7 ⟨hS8.rd 0 rfl, hI.out.1.2.1, hN8.1⟩ hN8.2.2 hmL (by omega))
              have hul := Lib.hid hI.out.1.2.1
              have huq := Lib.hid hI.out.1.2.2.1
              have huN := Lib.hid (show uq.length < 4294967296 by rw [hI.out.1.2.2.1, ← hI.out.1.1.len]; omega)
              clear hmost hN8 hI
              go_wp2_with fail
              refine KP.out.mono ?_
              clear KP
              rintro e9 w9 ⟨v9, rfl, h9⟩
              have hS10 := ((hS8.sub (List.sublist_cons_self _ _)).call h9).perm (L' := row 32 v9 (ul.take m ++ [.slice ap n cp] ++ ul.drop m) :: row 32 u10 uq :: (N ++ [row 2 (.slice ap n cp) (iv p)])) List.perm_append_comm
              clear hS8 h9
              go_wp2_with (at_builtin; refine appII hS10 1 rfl huN.out rfl _ _ rfl rfl _ rfl (by first | rfl | simp [Act.eval, World.size_alloc]) ?_; intro v11 w11 hS11; simp only [List.set_cons_succ, List.set_cons_zero] at hS11)
              go_roundw
              case rel => exact ⟨k + 1, _, _, _, _, _, by go_num, by omega, Lib.hid ⟨⟨hnew.out, by rw [insA_len hmL]; simp only [List.length_append, List.length_take, List.length_drop, List.length_singleton]; have := hul.out; omega, by rw [List.length_append, List.length_append, huq.out]; rfl, fun W h => ⟨ins_rows hul.out (hNN.out W h).1 (hNN.out W h).2.2 hmL, app_rows huq.out (hNN.out W h).2.1 (hNN.out W h).2.2⟩⟩, by rw [List.length_append]; omega⟩, hS11⟩
              case measure => simp [intOf]; omega
          · have hold : Hid (ScI n S L Q i (k + 1) most) := Lib.hid ⟨hI.out.1.1.bf.old (by rw [Hp.out, ← hI.out.1.1.mem]; have := HF.out.2.1 rfl; rw [← this.2]; exact xat_mem this.1), hI.out.1.1.str, hI.out.1.1.mem, hI.out.1.1.len, hI.out.1.1.le⟩
            have hR : Hid (ScR w n S L Q i (k + 1) most ul uq (N ++ [row 2 (.slice ap n cp) (iv p)]) ∧ i < Q.length) := Lib.hid ⟨⟨hold.out, hI.out.1.2.1, hI.out.1.2.2.1, fun W h => ⟨(hNN.out W h).1, (hNN.out W h).2.1⟩⟩, hiQ⟩
            clear hI hold
            go_wp2_with fail
            go_roundw
            case rel => exact ⟨k + 1, ul, uq, _, L, Q, by go_num, by omega, hR, hS8⟩
            case measure => simp [intOf]; omega
        · obtain rfl : k = S.length := by omega
          have hR : Hid (ScR w n S L Q (i + 1) 0 most ul uq N) := Lib.hid ⟨⟨hI.out.1.1.bf.next hiQ, hI.out.1.1.str, hI.out.1.1.mem, hI.out.1.1.len, hI.out.1.1.le⟩, hI.out.1.2⟩
          clear hI
          go_wp2_with fail
          go_roundw
          case rel => exact ⟨i + 1, ul, uq, N, L, Q, by go_num, hR, hS⟩
          case measure => simp [intOf]; omega
    · have hki := hI.out.1.bf.kl
      obtain rfl : i = Q.length := by omega
      have HF := Lib.hid hI.out.1.fin
      have hRL : RII wr u9 ul L := ⟨hS.rd 0 rfl, hI.out.2.1, (hI.out.2.2.2 wr (hS.sub ((List.sublist_cons_self _ _).trans (List.sublist_cons_self _ _)))).1⟩
      have HR := Lib.hid hRL
      have hout := hS.out
      clear hI hRL hS
      go_wp2_with fail
      go_ret2
      exact .inl ⟨_, ul, L, rfl, HR.out, HF.out, hLm, hout⟩
end Go.Proofs.Ytdgmaodnkbgolaa
end

section
/- Walks: owned rows beside a map of the call's own. -/
namespace Go.Proofs.Ytdgmaodnkbgolaa
set_option linter.unusedSimpArgs false
set_option linter.unusedVariables false
open Go.RowKit Go.Maps
section
variable {P : Program} {ops : Array Oper} {rest : List Oper} {o : Oper} {a : Act} {Q : Exit → Act → World → Prop}
/-- what append comes to, and what it leaves -/
theorem run_appK {B : Nat} {w0 w : World} {L : List Ent} (t ty e : TypeId) (z : Value) (bytes : Nat) (ht : P.underlying t = some (.slice e)) (hz : (P.info? e).map (fun i => (i.zero, i.size, i.bytes)) = some (some z, 1, bytes)) (hzs : z.cells.size = 1)
    (hS : St B w0 w L) (i : Nat) {v : Value} {us : List Value} (hi : L[i]? = some (row e v us)) (ad : Addr) (m c : Nat) (news : List Value) (hl : news.length = m) (hnews : ∀ j u, news[j]? = some u → w.cell? (ad.add j) = some u)
    (h1 : ∀ u ∈ news, u.oneCell' = true) (hb : bytes ≤ 4096) (hN : us.length + m ≤ 4294967296) :
    ∃ v' w', (Builtin.append_ #[t, t] ty #[v, .slice (some ad) m c]).run P w = .ok v' w' ∧ St B w0 w' (L.set i (row e v' (us ++ news))) ∧ (∀ k, k < w.heap.size → bk v ≠ some k → w'.heap[k]? = w.heap[k]?) ∧ (bk v' = bk v ∨ ∀ k, bk v' = some k → w.heap.size ≤ k) := by
  obtain ⟨inf, hinf, hzz⟩ := Option.map_eq_some_iff.1 hz
  simp only [Prod.mk.injEq] at hzz
  obtain ⟨hz0, hz1, hz2⟩ := hzz
  have hbytes : (us.length + m) * inf.bytes ≤ 140737488355328 := by
    rw [hz2]; have := Nat.mul_le_mul hN hb; omega
  have hx := hS.ok _ (List.mem_of_getElem? hi)
  rcases hx with ⟨hp, _⟩ | ⟨_, hv, hu⟩ | ⟨_, g, cap, cur, hv, hB, hh, hn1, hn2, hn3, hn4⟩
  · simp [row] at hp
  · simp only [row] at hu hv
    subst hu; subst hv
    by_cases hm : m = 0
    · subst hm
      have hn : news = [] := List.eq_nil_of_length_eq_zero hl
      subst hn
      refine ⟨.slice none 0 0, w, ?_, ?_, fun _ _ _ => rfl, .inl rfl⟩
      · simp [Builtin.append_, run_underlying ht, sizeOf, typeInfo, hinf, Builtin.lenOf, Builtin.firstCells, loadCells, loadCellsFrom]
      · have : L.set i (row e (.slice none 0 0) ([] ++ [])) = L := by
          obtain ⟨hlt, heq⟩ := List.getElem?_eq_some_iff.1 hi
          rw [List.append_nil, ← heq, List.set_getElem_self]
        rw [this]; exact hS
    · simp only [List.length_nil, Nat.zero_add] at hbytes hN
      have hr := run_append_nil (P := P) w t ty e inf z ht hinf hz0 ad m c news (by rw [hz1]; omega) hnews (by omega) (by omega) (by omega)
      refine ⟨_, _, hr, ?_, fun k hk _ => (World.grownBy_alloc w.drew _ none).block k hk (by simp), .inr (fun k hk => by simp [bk] at hk; omega)⟩
      have hge := grownCap_ge w m 0 e
      have hcm := grownCap_le_maxLen w m 0 e (by unfold maxLen; omega)
      have hd := hS.drew
      refine hd.put i hi ?_ (row e _ _) (.inr (.inr ⟨rfl, w.heap.size, grownCap w m 0 e, _, ?_, hS.base, heap_alloc_new w.drew _, ?_, hcm, ?_, ?_⟩)) (.inr ?_)
      · exact World.grownBy_alloc w.drew _ _
      · simp [row, hl]
      · simp [row, hl]; omega
      · simp [size_zeroCells, hzs, hl]; omega
      · simp only [row, List.nil_append, Array.toList_append]; exact List.take_left
      · intro k hk; simp [row, bk] at hk; simp; omega
  · simp only [row] at hv hn1 hn4 hh
    have hsz : cur.size = cap := hn3
    by_cases hroom : us.length + m ≤ cap
    · have hfit : us.length * inf.size + news.length ≤ cur.size := by rw [hz1, hl, hsz]; omega
      have hr := run_append_room (P := P) w t ty e inf ht hinf g us.length cap cur hh ad m c news (by rw [hz1]; omega) hnews h1 hroom hfit
      rw [← hv] at hr
      refine ⟨_, _, hr, ?_, fun k hk hne => setRow_other w g k _ (fun e => hne (by rw [hv, e]; rfl)), .inl (by rw [hv]; rfl)⟩
      refine hS.put i hi ?_ (row e _ _) (.inr (.inr ⟨rfl, g, cap, _, ?_, hB, setRow_heap w g cur _ e _ hh, ?_, hn2, ?_, ?_⟩)) (.inl ?_)
      · exact ⟨rfl, rfl, rfl, by simp, fun k _ hk => setRow_other w g k _ (fun e => hk (by simp [row, bk, hv, e]))⟩
      · simp [row, hl]
      · simp [row, hl]; omega
      · simp only [List.size_toArray, List.length_append, List.length_take, List.length_drop, Array.length_toList, hz1]; omega
      · simp only [row, hz1, Nat.mul_one, hn4]; exact List.take_left
      · simp [row, bk, hv]
    · have holds : ∀ j u, us[j]? = some u → w.cell? ((⟨g, 0, none⟩ : Addr).add j) = some u := by
        intro j u hu
        have := (hS.rd i hi).2 j u hu
        rwa [hv] at this
      have hr := run_append_grow (P := P) w t ty e inf z ht hinf hz0 ⟨g, 0, none⟩ us.length cap us (by rw [hz1]; omega) holds ad m c news (by rw [hz1]; omega) hnews (by omega) (by omega) (growslice_fits (by omega) hbytes)
      rw [← hv] at hr
      refine ⟨_, _, hr, ?_, fun k hk _ => (World.grownBy_alloc w.drew _ none).block k hk (by simp), .inr (fun k hk => by simp [bk] at hk; omega)⟩
      have hge := grownCap_ge w (us.length + m) cap e
      have hcm := grownCap_le_maxLen w (us.length + m) cap e (by unfold maxLen; omega)
      have hd := hS.drew
      refine hd.put i hi ?_ (row e _ _) (.inr (.inr ⟨rfl, w.heap.size, grownCap w (us.length + m) cap e, _, ?_, hS.base, heap_alloc_new w.drew _, ?_, hcm, ?_, ?_⟩)) (.inr ?_)
      · exact World.grownBy_alloc w.drew _ _
      · simp [row, hl]
      · simp [row, hl]; omega
      · simp [size_zeroCells, hzs, hl]; omega
      · simp only [row, Array.toList_append, List.append_assoc]
        rw [← List.append_assoc]; exact List.take_left
      · intro k hk; simp [row, bk] at hk; simp; omega

end
theorem Try.lawS : Keyed Try.prog 9 := string_keyed Try.underlying9
/-- rows, and a map in block b that holds the keys ks -/
structure SM (w0 : World) (b n : Nat) (ks : List Lit) (w : World) (L : List Ent) : Prop where
  st : St w0.heap.size w0 w L
  own : w.ownsMap Try.prog 9 (plainElem (H := Unit) Try.prog 4) b n (setT ks)
  low : w0.heap.size ≤ b
  apart : ∀ x ∈ L, bk x.v ≠ some b
theorem SM.lt {w0 w : World} {b n : Nat} {ks : List Lit} {L : List Ent} (h : SM w0 b n ks w L) : b < w.heap.size := by
  obtain ⟨es, clock, hb, _⟩ := h.own
  exact (Array.getElem?_eq_some_iff.1 hb).1
theorem SM.call {w0 w w' : World} {b n : Nat} {ks : List Lit} {L L' : List Ent} (h : SM w0 b n ks w L) (h' : St w.heap.size w w' L') : SM w0 b n ks w' (L ++ L') :=
  ⟨h.st.call h', ownsMap_block h.own (h'.below.block b h.lt), h.low, fun x hx => by
    rcases List.mem_append.1 hx with hx | hx
    · exact h.apart x hx
    · intro e
      have := ((h'.ok x hx).lt e).1
      have := h.lt; omega⟩
theorem SM.call0 {w0 w w' : World} {b n : Nat} {ks : List Lit} {L : List Ent} (h : SM w0 b n ks w L) (h' : St w.heap.size w w' []) : SM w0 b n ks w' L := by
  have := h.call h'; rwa [List.append_nil] at this
theorem SM.sub {w0 w : World} {b n : Nat} {ks : List Lit} {L L' : List Ent} (h : SM w0 b n ks w L) (hs : L'.Sublist L) : SM w0 b n ks w L' :=
  ⟨h.st.sub hs, h.own, h.low, fun x hx => h.apart x (hs.subset hx)⟩
theorem SM.perm {w0 w : World} {b n : Nat} {ks : List Lit} {L L' : List Ent} (h : SM w0 b n ks w L) (hs : L.Perm L') : SM w0 b n ks w L' :=
  ⟨h.st.perm hs, h.own, h.low, fun x hx => h.apart x (hs.mem_iff.2 hx)⟩
theorem SM.drew {w0 w : World} {b n : Nat} {ks : List Lit} {L : List Ent} (h : SM w0 b n ks w L) : SM w0 b n ks w.drew L := ⟨h.st.drew, ownsMap_block h.own rfl, h.low, h.apart⟩
/-- behind a store into the map -/
theorem SM.turn {w0 w w' : World} {b n n' : Nat} {ks ks' : List Lit} {L : List Ent} (h : SM w0 b n ks w L) (hg : w.grownBy w' (some b)) (ho : w'.ownsMap Try.prog 9 (plainElem (H := Unit) Try.prog 4) b n' (setT ks')) : SM w0 b n' ks' w' L := by
  refine ⟨⟨h.st.below.grown hg h.st.base (fun k hk => by cases hk; exact h.low), Nat.le_trans h.st.base hg.size, fun x hx => (h.st.ok x hx).of_block fun k hk => ?_, h.st.apart⟩, ho, h.low, h.apart⟩
  refine hg.block k ((h.st.ok x hx).lt hk).2 ?_
  intro e
  simp only [Option.some.injEq] at e
  exact h.apart x hx (by rw [hk, e])
section
variable {ops : Array Oper} {rest : List Oper} {o : Oper} {a : Act} {Q : Exit → Act → World → Prop} {w0 w : World} {b n : Nat} {ks : List Lit} {L : List Ent}
/-- append of one slice to an owned row of slices, beside the map -/
theorem appIIM (hS : SM w0 b n ks w L) (i : Nat) {v : Value} {us : List Value} (hi : L[i]? = some (row 32 v us)) (hN : us.length < 4294967296) (hg : o.guard = none) (s x : Operand)
    (hop : o.op = .call { callee := .builtin .append, args := #[s, x], argTypes := #[24, 24] }) (hs : a.eval s = v) (u : Value) (hu : u.oneCell' = true) (hx : a.eval x = .slice (some ⟨w.heap.size, 0, none⟩) 1 1)
    (hK : ∀ v' w', SM w0 b n ks w' (L.set i (row 32 v' (us ++ [u]))) → wpList Try.prog ops Q rest (a.put o.dst v') w') :
    wpList Try.prog ops Q (o :: rest) a (w.alloc (.cells #[u] 32)) := by
  refine wpList_plain hg fun K hK' => ?_
  obtain ⟨v', w', hr, hS', hkeep, hbk⟩ := run_appK (P := Try.prog) 24 o.type 32 (.slice none 0 0) 24 Try.und_iss Try.info_is rfl (hS.st.alloc' (.cells #[u] 32)) i hi ⟨w.heap.size, 0, none⟩ 1 1 [u] rfl (by
    intro j u' hu'
    match j, hu' with
    | 0, hu' => simp at hu'; subst hu'; simp [Addr.add]) (by simpa using hu) (by omega) (by omega)
  unfold Oper.wp execOp
  simp only [hop, resolve, invoke, builtin, Sem.run_bind, Sem.run_pure, Result.andThen_ok, List.map_toArray, List.map_cons, List.map_nil, hs, hx, hr]
  have hlt := hS.lt
  have hil : i < L.length := (List.getElem?_eq_some_iff.1 hi).1
  have hvb : bk v ≠ some b := hS.apart _ (List.mem_of_getElem? hi)
  refine hK' _ _ (hK _ _ ⟨hS', ?_, hS.low, fun y hy => ?_⟩)
  · refine ownsMap_block hS.own ?_
    rw [hkeep b (by simp; omega) hvb]
    exact (World.grownBy_alloc w _ none).block b hlt (by simp)
  · rcases List.mem_or_eq_of_mem_set hy with hy | rfl
    · exact hS.apart y hy
    · show bk v' ≠ some b
      rcases hbk with e | e
      · rw [e]; exact hvb
      · intro q
        have := e b q
        simp at this; omega
end
end Go.Proofs.Ytdgmaodnkbgolaa
end

section
/- slices.SortFunc at [][]int64 with slices.Compare: rows that a call owns, put in order; slices.IsSortedFunc. -/
namespace Go.Proofs.Ytdgmaodnkbgolaa
set_option linter.unusedSimpArgs false
set_option linter.unusedVariables false
open Go.RowKit
attribute [local go_sem ↓] Go.wp_at_zero Go.wp_at_succ

def Try.mSortR_ren : Go.Shelf.Ren := ⟨fun | 6 => 50 | 15 => 69 | 14 => 68 | 28 => 82 | 29 => 83 | 20 => 74 | 21 => 75 | 22 => 76 | 23 => 77 | 24 => 78 | 25 => 79 | 26 => 80 | 27 => 81 | 46 => 93 | 47 => 94 | 48 => 95 | 49 => 96 | 50 => 97 | 57 => 101 | n => n, fun | 22 => 24 | 24 => 32 | 25 => 72 | 3 => 3 | 39 => 86 | 0 => 0 | 53 => 100 | 55 => 65 | 4 => 4 | 46 => 94 | 45 => 93 | 50 => 73 | 5 => 5 | 9 => 9 | 66 => 108 | 70 => 112 | 76 => 116 | 77 => 117 | n => n, fun | n => n⟩
theorem Try.mSortR : Go.Proofs.SlLaysF.n6 Try.prog Try.mSortR_ren := {
  mixed := by kernel_rfl
  f6 := ⟨Try.f50.name, by decide, Try.func50.trans (congrArg some (by kernel_rfl))⟩
  f14 := ⟨Try.f68.name, by decide, Try.func68.trans (congrArg some (by kernel_rfl))⟩
  f15 := Try.func69.trans (congrArg some (by kernel_rfl))
  f20 := ⟨Try.f74.name, by decide, Try.func74.trans (congrArg some (by kernel_rfl))⟩
  f21 := ⟨Try.f75.name, by decide, Try.func75.trans (congrArg some (by kernel_rfl))⟩
  f22 := ⟨Try.f76.name, by decide, Try.func76.trans (congrArg some (by kernel_rfl))⟩
  f23 := ⟨Try.f77.name, by decide, Try.func77.trans (congrArg some (by kernel_rfl))⟩
  f24 := ⟨Try.f78.name, by decide, Try.func78.trans (congrArg some (by kernel_rfl))⟩
  f25 := ⟨Try.f79.name, by decide, Try.func79.trans (congrArg some (by kernel_rfl))⟩
  f26 := ⟨Try.f80.name, by decide, Try.func80.trans (congrArg some (by kernel_rfl))⟩
  f27 := ⟨Try.f81.name, by decide, Try.func81.trans (congrArg some (by kernel_rfl))⟩
  f28 := Try.func82.trans (congrArg some (by kernel_rfl))
  f29 := Try.func83.trans (congrArg some (by kernel_rfl))
  f46 := ⟨Try.f93.name, by decide, Try.func93.trans (congrArg some (by kernel_rfl))⟩
  f47 := Try.func94.trans (congrArg some (by kernel_rfl))
  f48 := Try.func95.trans (congrArg some (by kernel_rfl))
  f49 := ⟨Try.f96.name, by decide, Try.func96.trans (congrArg some (by kernel_rfl))⟩
  f50 := ⟨Try.f97.name, by decide, Try.func97.trans (congrArg some (by kernel_rfl))⟩
  f57 := ⟨Try.f101.name, by decide, Try.func101.trans (congrArg some (by kernel_rfl))⟩
  t0 := Try.underlying0
  a0 := Try.isAgg0
  z0 := Try.sizeOf0
  v0 := Try.zeroValue0
  t3 := Try.underlying3
  a3 := Try.isAgg3
  z3 := Try.sizeOf3
  v3 := Try.zeroValue3
  t4 := Try.underlying4
  a4 := Try.isAgg4
  z4 := Try.sizeOf4
  v4 := Try.zeroValue4
  t5 := Try.underlying5
  a5 := Try.isAgg5
  z5 := Try.sizeOf5
  v5 := Try.zeroValue5
  t9 := Try.underlying9
  a9 := Try.isAgg9
  z9 := Try.sizeOf9
  v9 := Try.zeroValue9
  t22 := Try.underlying24
  a22 := Try.isAgg24
  z22 := Try.sizeOf24
  v22 := Try.zeroValue24
  a24 := Try.isAgg32
  z24 := Try.sizeOf32
  t25 := Try.underlying72
  a25 := Try.isAgg72
  z25 := Try.sizeOf72
  v25 := Try.zeroValue72
  t39 := Try.underlying86
  a39 := Try.isAgg86
  z39 := Try.sizeOf86
  v39 := Try.zeroValue86
  t45 := Try.underlying93
  a45 := Try.isAgg93
  z45 := Try.sizeOf93
  v45 := Try.zeroValue93
  t46 := Try.underlying94
  a46 := Try.isAgg94
  z46 := Try.sizeOf94
  v46 := Try.zeroValue94
  t50 := Try.underlying73
  a50 := Try.isAgg73
  z50 := Try.sizeOf73
  v50 := Try.zeroValue73
  t53 := Try.underlying100
  a53 := Try.isAgg100
  z53 := Try.sizeOf100
  v53 := Try.zeroValue100
  t55 := Try.underlying65
  a55 := Try.isAgg65
  z55 := Try.sizeOf65
  v55 := Try.zeroValue65
  t66 := Try.underlying108
  a66 := Try.isAgg108
  z66 := Try.sizeOf108
  v66 := Try.zeroValue108
  t70 := Try.underlying112
  a70 := Try.isAgg112
  z70 := Try.sizeOf112
  v70 := Try.zeroValue112
  t76 := Try.underlying116
  a76 := Try.isAgg116
  z76 := Try.sizeOf116
  v76 := Try.zeroValue116
  t77 := Try.underlying117
  a77 := Try.isAgg117
  z77 := Try.sizeOf117
  v77 := Try.zeroValue117
}

/-! ### a row of any kind -/
theorem holds_of_blockE {α : Type} [Inhabited α] (enc : α → Value) {w : World} {g : Nat} {cur : Array Value} {e : TypeId} {ss : List α} (hb : w.heap[g]? = some (.cells cur e (0, 0))) (ht : cur.toList.take ss.length = ss.map enc) : Go.Sort.Holds enc w g 0 ss.toArray := by
  intro j hj
  have hj' : j < ss.length := by simpa using hj
  refine ⟨?_, by simp [World.frozen?, hb]⟩
  have h1 : (cur.toList.take ss.length)[j]? = (ss.map enc)[j]? := by rw [ht]
  rw [List.getElem?_take_of_lt hj'] at h1
  simp only [World.cell?, hb, Nat.zero_add]
  simp only [Option.isSome_none, Bool.false_eq_true, if_false]
  rw [← Array.getElem?_toList, h1]
  simp [hj']
theorem heap_sortedE {α : Type} [Inhabited α] (enc : α → Value) {w : World} {g n : Nat} {os : Array Obj} {cur : Array Value} {e : TypeId} {fr : Nat × Nat} (d : Array α) (hb : w.heap[g]? = some (.cells cur e fr)) :
    (Go.Sort.grow (Go.Sort.putRow enc (Go.Sort.ahead w n) g 0 d) os).heap[g]? = some (.cells (Go.Sort.putCells enc 0 d cur) e fr) := by
  have hg : g < w.heap.size := (Array.getElem?_eq_some_iff.1 hb).1
  rw [Go.Sort.heap_grow_old _ _ (by simpa using hg)]
  simp [Go.Sort.putRow, Go.Sort.mapBlock, Go.Sort.ahead, Array.getElem?_modify, hb, Go.Sort.onCells]
theorem grownBy_sortedE {α : Type} [Inhabited α] (enc : α → Value) {w : World} {g n : Nat} {os : Array Obj} (d : Array α) : w.grownBy (Go.Sort.grow (Go.Sort.putRow enc (Go.Sort.ahead w n) g 0 d) os) (some g) := by
  refine ⟨rfl, rfl, rfl, by simp, fun k hk hne => ?_⟩
  rw [Go.Sort.heap_grow_old _ _ (by simpa using hk)]
  have : g ≠ k := fun e => hne (by rw [e])
  simp [Go.Sort.putRow, Go.Sort.mapBlock, Go.Sort.ahead, Array.getElem?_modify, this]
theorem take_putCellsE {α : Type} [Inhabited α] (enc : α → Value) (cur : Array Value) (d : Array α) (h : d.size ≤ cur.size) : (Go.Sort.putCells enc 0 d cur).toList.take d.size = d.toList.map enc := by
  apply List.ext_getElem?
  intro j
  by_cases hj : j < d.size
  · rw [List.getElem?_take_of_lt hj, Array.getElem?_toList]
    simp [Go.Sort.putCells, hj, show j < cur.size by omega]
  · rw [List.getElem?_take_eq_none (by omega), List.getElem?_eq_none (by simp; omega)]

end Go.Proofs.Ytdgmaodnkbgolaa
end

section
/- slices.SortFunc at [][]int64 with slices.Compare: the rows of an owned list of rows are put in order. -/
namespace Go.Proofs.Ytdgmaodnkbgolaa
set_option linter.unusedSimpArgs false
set_option linter.unusedVariables false
open Go.RowKit

theorem callR_cmp : ∀ (args : Array Value) (W : World), (callFunc 44 args).run Try.prog W = .ok (.enter 44 args) W :=
  fun args W => callFunc_go (P := Try.prog) Try.func44 (by kernel_rfl) (by kernel_rfl) args W
def cfR (A : List (List Int)) (x y : Fin A.length) : Int := cmpI (xat A x) (xat A y)
theorem swoR (A : List (List Int)) : Go.Sort.SWO (Go.Proofs.ltOf (cfR A)) where
  irrefl x := by simp [Go.Proofs.ltOf, cfR, cmpI_self]
  trans x y z h1 h2 := by
    have a1 := of_decide_eq_true h1
    have a2 := of_decide_eq_true h2
    refine decide_eq_true ?_
    unfold cfR at *
    have h3 := cmpI_trans (a := xat A x) (b := xat A y) (c := xat A z) (by omega) (by omega)
    rcases Int.lt_or_le (cmpI (xat A x) (xat A z)) 0 with h | h
    · exact h
    · have h4 := cmpI_eq (a := xat A x) (b := xat A z) (by omega)
      rw [h4] at a1
      have := cmpI_neg (xat A y) (xat A z)
      omega
  ntrans x y z h1 h2 := by
    have a1 := of_decide_eq_false h1
    have a2 := of_decide_eq_false h2
    refine decide_eq_false ?_
    unfold cfR at *
    have n1 := cmpI_neg (xat A x) (xat A y)
    have n2 := cmpI_neg (xat A y) (xat A z)
    have n3 := cmpI_neg (xat A x) (xat A z)
    have h3 := cmpI_trans (a := xat A z) (b := xat A y) (c := xat A x) (by omega) (by omega)
    omega
theorem fin_map {α : Type} (us : List α) (d : α) {n : Nat} (h : us.length = n) : (List.finRange n).map (fun k : Fin n => us.getD k d) = us := by
  subst h
  apply List.ext_getElem
  · simp
  · intro i h1 h2
    simp at h1 ⊢
theorem rows_fin {us : List Value} {A : List (List Int)} (h : us.length = A.length) : rowsI us A = (List.finRange A.length).map fun k : Fin A.length => row 2 (vat us k) (iv (xat A k)) := by
  apply List.ext_getElem
  · simp [rowsI, h]
  · intro i h1 h2
    simp [rowsI, h] at h1
    simp [rowsI, vat, xat, h, h1]
set_option maxHeartbeats 1000000 in
theorem SortRows_c {B : Nat} {w0 w : World} {L : List Ent} {v : Value} {us : List Value} {A : List (List Int)} (hS : St B w0 w (own2 v us A ++ L)) (hl : us.length = A.length) (hlen : A.length < 100000) :
    Calls Try.prog 50 #[v, .func (.func 44) #[] #[]] w fun e w' => ∃ us' : List Value, e = .returned (.tuple #[]) ∧ us'.length = A.length ∧ St B w0 w' (own2 v us' (srtL A) ++ L) := by
  have hi : (own2 v us A ++ L)[0]? = some (row 32 v us) := rfl
  by_cases h0 : A = []
  · subst h0
    have hu : us = [] := by simpa using hl
    subst hu
    obtain ⟨a, c, hv⟩ := (hS.rd 0 hi).sl.sh
    subst hv
    refine Calls.mono (Go.Proofs.AnyF.slices_SortFunc_none (P := Try.prog) (ρ := Try.mSortR_ren) { Try.mSortR with } a c (.func (.func 44) #[] #[]) w) ?_
    rintro e w' ⟨rfl, rfl⟩
    exact ⟨[], rfl, rfl, hS⟩
  · have hpos : 0 < A.length := by cases A with
      | nil => exact absurd rfl h0
      | cons _ _ => simp
    haveI : Inhabited (Fin A.length) := ⟨⟨0, hpos⟩⟩
    have hrow : ∀ {W : World} {u : List Value}, St B w0 W (row 32 v u :: (rowsI us A ++ L)) → ∀ k : Fin A.length, RdI W (vat us k) (xat A k) := by
      intro W u h k
      refine h.rdI (k + 1) (e := 2) ?_
      rw [List.getElem?_cons_succ, List.getElem?_append_left (by rw [rowsI_len hl]; exact k.isLt)]
      exact rowsI_get hl k.isLt
    have hok := hS.ok _ (List.mem_of_getElem? hi)
    rcases hok with ⟨hp, _⟩ | ⟨_, hv, hu⟩ | ⟨_, g, cap, cur, hv, hB, hh, h1, h2, h3, h4⟩
    · simp [row] at hp
    · simp only [row] at hu
      rw [hu] at hl; simp at hl; omega
    · simp only [row] at hv h1 h4 hh
      subst hv
      have hblk : g < w.heap.size := (Array.getElem?_eq_some_iff.1 hh).1
      have hOne : Go.Proofs.OneCell (fun k : Fin A.length => vat us k) := fun k => (hrow hS k).sl.one
      have hd : (List.finRange A.length).toArray.size = us.length := by simp [hl]
      have hH : Go.Sort.Holds (fun k : Fin A.length => vat us k) w g 0 (List.finRange A.length).toArray := holds_of_blockE _ hh (by
        rw [List.length_finRange]
        exact (by rw [← hl]; exact h4 : cur.toList.take A.length = us).trans (fin_map us undef hl).symm)
      have putAll : ∀ (m : Nat) (os : Array Obj) (dk : Array (Fin A.length)), dk.size = us.length → St B w0 (Go.Proofs.sortWorld (fun k : Fin A.length => vat us k) w g 0 m dk os) (row 32 (.slice (some ⟨g, 0, none⟩) us.length cap) (dk.toList.map fun k : Fin A.length => vat us k) :: (rowsI us A ++ L)) := by
        intro m os dk hs
        have := hS.put 0 hi (w' := Go.Proofs.sortWorld (fun k : Fin A.length => vat us k) w g 0 m dk os) ?_ (row 32 (.slice (some ⟨g, 0, none⟩) us.length cap) (dk.toList.map fun k : Fin A.length => vat us k)) (.inr (.inr ⟨rfl, g, cap, _, ?_, hB, heap_sortedE (fun k : Fin A.length => vat us k) _ hh, ?_, h2, ?_, ?_⟩)) (.inl rfl)
        · exact this
        · exact grownBy_sortedE (fun k : Fin A.length => vat us k) dk
        · simp [row, hs]
        · simp [row, hs]; exact h1
        · simp [Go.Sort.putCells, h3]
        · have := take_putCellsE (fun k : Fin A.length => vat us k) cur dk (by omega)
          rw [hs] at this
          simpa [row, hs] using this
      have hcmp : Go.Proofs.CmpLays1 Try.prog 44 #[] (fun k : Fin A.length => vat us k) (cfR A) g 0 (List.finRange A.length).toArray.size w := by
        refine Go.Proofs.CmpReads.lays fun m os dk hs x y => ?_
        have hp := putAll m os dk (by rw [hs, hd])
        refine (Compare_c _ _ _ _ _ (hrow hp x) (hrow hp y)).mono ?_
        rintro e w' ⟨rfl, rfl⟩
        exact ⟨rfl, 0, rfl⟩
      have hc := Go.Proofs.Any.slices_SortFunc (P := Try.prog) (ρ := Try.mSortR_ren) Try.mSortR (fun k : Fin A.length => vat us k) hOne (cfR A) (swoR A) 44 #[] g 0 cap (List.finRange A.length).toArray w callR_cmp hcmp hH hblk (by rw [hd]; omega)
      rw [hd] at hc
      refine Calls.mono hc ?_
      rintro e w' ⟨rfl, d', n, os, hperm, hso, rfl⟩
      have hds : d'.size = us.length := by have := hperm.1; omega
      have hpm : d'.toList.Perm (List.finRange A.length) := by
        have := hperm.2.2
        rw [show d'.extract 0 us.length = d' by rw [← hds]; simp, show (List.finRange A.length).toArray.extract 0 us.length = (List.finRange A.length).toArray by rw [← hd]; simp only [Array.extract_size]] at this
        simpa using this
      have hA : (d'.toList.map fun k : Fin A.length => xat A k) = srtL A := by
        refine srtL_eq ?_ ?_
        · have := hpm.map fun k : Fin A.length => xat A k
          rwa [show (List.finRange A.length).map (fun k : Fin A.length => xat A k) = A from fin_map A [] rfl] at this
        · rw [List.pairwise_map, List.pairwise_iff_getElem]
          intro i j hi' hj' hij
          have := hso i j (by omega) hij (by rw [← hds]; simpa using hj')
          have := of_decide_eq_false this
          unfold cfR at this
          have e1 : d'[i]! = d'.toList[i] := by simp at hi'; simp [hi']
          have e2 : d'[j]! = d'.toList[j] := by simp at hj'; simp [hj']
          rw [e1, e2] at this
          have := cmpI_neg (xat A d'.toList[j]) (xat A d'.toList[i])
          exact decide_eq_true (by omega)
      have hp := putAll n os d' hds
      refine ⟨d'.toList.map fun k : Fin A.length => vat us k, rfl, by simp [hds, hl], ?_⟩
      rw [← hA]
      refine hp.perm ?_
      unfold own2
      refine List.Perm.cons _ (List.Perm.append_right _ ?_)
      rw [rows_fin hl]
      refine (hpm.map _).symm.trans (.of_eq ?_)
      unfold rowsI
      rw [List.zipWith_map, List.zipWith_self]
end Go.Proofs.Ytdgmaodnkbgolaa
end
