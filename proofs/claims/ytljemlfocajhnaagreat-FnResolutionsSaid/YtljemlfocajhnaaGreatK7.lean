/- The texts of this claim, run 7: Srt PIm PRs Sq RrA Bo RrC PPln A3 Pj1 PPj PRx PLat PCon PMol Pm3 Pm6 SqB. -/
import Derived.Test.YtljemlfocajhnaaGreatK1
import Derived.Test.YtljemlfocajhnaaGreatK2
import Derived.Test.YtljemlfocajhnaaGreatK3
import Derived.Test.YtljemlfocajhnaaGreatK4
import Derived.Test.YtljemlfocajhnaaGreatK5
import Derived.Test.YtljemlfocajhnaaGreatK6
import Derived.Shelf.SortM.Plain
import Derived.Shelf.SortM.SortNone
import Derived.Sort.OwnSortedInts
import Derived.Shelf.SlSortCmp.NoneTotal
import Derived.Deep.RegionHeld3
import Derived.Deep.DrawnRows
section
/- slices.Sort at []int64: a row that a call owns, sorted. -/
namespace Go.Proofs.YtljemlfocajhnaaGreat
set_option linter.unusedSimpArgs false
set_option linter.unusedVariables false
open Go.RowKit

def Tryz.mSort_ren : Go.Shelf.Ren := ⟨fun | 5 => 15 | 8 => 43 | 7 => 42 | 19 => 74 | 20 => 75 | 10 => 65 | 11 => 66 | 12 => 67 | 13 => 68 | 14 => 69 | 15 => 70 | 16 => 71 | 17 => 72 | 18 => 73 | 30 => 96 | 31 => 97 | 32 => 98 | 33 => 99 | 34 => 100 | 35 => 81 | 40 => 105 | n => n, fun | 23 => 46 | 25 => 2 | 3 => 3 | 32 => 75 | 22 => 46 | 0 => 0 | 44 => 109 | 46 => 57 | 4 => 4 | 36 => 101 | 35 => 100 | 41 => 106 | 5 => 5 | 9 => 9 | 53 => 123 | 57 => 127 | 63 => 132 | 64 => 133 | n => n, fun | n => n⟩
theorem Tryz.mSort : Go.Proofs.SlLaysM.n5 Tryz.prog Tryz.mSort_ren := {
  mixed := by kernel_rfl
  f5 := ⟨Tryz.f15.name, by decide, Tryz.func15.trans (congrArg some (by kernel_rfl))⟩
  f7 := ⟨Tryz.f42.name, by decide, Tryz.func42.trans (congrArg some (by kernel_rfl))⟩
  f8 := Tryz.func43.trans (congrArg some (by kernel_rfl))
  f10 := ⟨Tryz.f65.name, by decide, Tryz.func65.trans (congrArg some (by kernel_rfl))⟩
  f11 := ⟨Tryz.f66.name, by decide, Tryz.func66.trans (congrArg some (by kernel_rfl))⟩
  f12 := ⟨Tryz.f67.name, by decide, Tryz.func67.trans (congrArg some (by kernel_rfl))⟩
  f13 := ⟨Tryz.f68.name, by decide, Tryz.func68.trans (congrArg some (by kernel_rfl))⟩
  f14 := ⟨Tryz.f69.name, by decide, Tryz.func69.trans (congrArg some (by kernel_rfl))⟩
  f15 := ⟨Tryz.f70.name, by decide, Tryz.func70.trans (congrArg some (by kernel_rfl))⟩
  f16 := ⟨Tryz.f71.name, by decide, Tryz.func71.trans (congrArg some (by kernel_rfl))⟩
  f17 := ⟨Tryz.f72.name, by decide, Tryz.func72.trans (congrArg some (by kernel_rfl))⟩
  f18 := ⟨Tryz.f73.name, by decide, Tryz.func73.trans (congrArg some (by kernel_rfl))⟩
  f19 := Tryz.func74.trans (congrArg some (by kernel_rfl))
  f20 := Tryz.func75.trans (congrArg some (by kernel_rfl))
  f30 := ⟨Tryz.f96.name, by decide, Tryz.func96.trans (congrArg some (by kernel_rfl))⟩
  f31 := Tryz.func97.trans (congrArg some (by kernel_rfl))
  f32 := Tryz.func98.trans (congrArg some (by kernel_rfl))
  f33 := ⟨Tryz.f99.name, by decide, Tryz.func99.trans (congrArg some (by kernel_rfl))⟩
  f34 := ⟨Tryz.f100.name, by decide, Tryz.func100.trans (congrArg some (by kernel_rfl))⟩
  f35 := ⟨Tryz.f81.name, by decide, Tryz.func81.trans (congrArg some (by kernel_rfl))⟩
  f40 := ⟨Tryz.f105.name, by decide, Tryz.func105.trans (congrArg some (by kernel_rfl))⟩
  t0 := Tryz.underlying0
  a0 := Tryz.isAgg0
  z0 := Tryz.sizeOf0
  v0 := Tryz.zeroValue0
  t3 := Tryz.underlying3
  a3 := Tryz.isAgg3
  z3 := Tryz.sizeOf3
  v3 := Tryz.zeroValue3
  t4 := Tryz.underlying4
  a4 := Tryz.isAgg4
  z4 := Tryz.sizeOf4
  v4 := Tryz.zeroValue4
  t5 := Tryz.underlying5
  a5 := Tryz.isAgg5
  z5 := Tryz.sizeOf5
  v5 := Tryz.zeroValue5
  t9 := Tryz.underlying9
  a9 := Tryz.isAgg9
  z9 := Tryz.sizeOf9
  v9 := Tryz.zeroValue9
  t22 := Tryz.underlying46
  a22 := Tryz.isAgg46
  z22 := Tryz.sizeOf46
  v22 := Tryz.zeroValue46
  t23 := Tryz.underlying46
  a23 := Tryz.isAgg46
  z23 := Tryz.sizeOf46
  v23 := Tryz.zeroValue46
  t25 := Tryz.underlying2
  a25 := Tryz.isAgg2
  z25 := Tryz.sizeOf2
  v25 := Tryz.zeroValue2
  t32 := Tryz.underlying75
  a32 := Tryz.isAgg75
  z32 := Tryz.sizeOf75
  v32 := Tryz.zeroValue75
  t35 := Tryz.underlying100
  a35 := Tryz.isAgg100
  z35 := Tryz.sizeOf100
  v35 := Tryz.zeroValue100
  t36 := Tryz.underlying101
  a36 := Tryz.isAgg101
  z36 := Tryz.sizeOf101
  v36 := Tryz.zeroValue101
  t41 := Tryz.underlying106
  a41 := Tryz.isAgg106
  z41 := Tryz.sizeOf106
  v41 := Tryz.zeroValue106
  t44 := Tryz.underlying109
  a44 := Tryz.isAgg109
  z44 := Tryz.sizeOf109
  v44 := Tryz.zeroValue109
  t46 := Tryz.underlying57
  a46 := Tryz.isAgg57
  z46 := Tryz.sizeOf57
  v46 := Tryz.zeroValue57
  t53 := Tryz.underlying123
  a53 := Tryz.isAgg123
  z53 := Tryz.sizeOf123
  v53 := Tryz.zeroValue123
  t57 := Tryz.underlying127
  a57 := Tryz.isAgg127
  z57 := Tryz.sizeOf127
  v57 := Tryz.zeroValue127
  t63 := Tryz.underlying132
  a63 := Tryz.isAgg132
  z63 := Tryz.sizeOf132
  v63 := Tryz.zeroValue132
  t64 := Tryz.underlying133
  a64 := Tryz.isAgg133
  z64 := Tryz.sizeOf133
  v64 := Tryz.zeroValue133
  }

/-- in rising order -/
def srt (xs : List Int) : List Int := xs.mergeSort fun x y => decide (x ≤ y)
theorem srt_len (xs : List Int) : (srt xs).length = xs.length := List.length_mergeSort _
theorem srt_perm (xs : List Int) : (srt xs).Perm xs := List.mergeSort_perm _ _
theorem Sort_c {B : Nat} {w0 w : World} {L : List Ent} (hS : St B w0 w L) (i : Nat) {v : Value} {xs : List Int} (hi : L[i]? = some (row 2 v (iv xs))) (hl : xs.length < 4611686018427387904) :
    Calls Tryz.prog 15 #[v] w fun e w' => e = .returned (.tuple #[]) ∧ St B w0 w' (L.set i (row 2 v (iv (srt xs)))) := by
  have hx := hS.ok _ (List.mem_of_getElem? hi)
  rcases hx with ⟨hp, _⟩ | ⟨_, hv, hu⟩ | ⟨_, g, cap, cur, hv, hB, hh, h1, h2, h3, h4⟩
  · simp [row] at hp
  · simp only [row] at hv hu
    have hx : xs = [] := by cases xs with
      | nil => rfl
      | cons a r => simp [iv] at hu
    subst hx
    subst hv
    have hc := AnyM.slices_Sort_int_none Tryz.mSort none 0 w
    refine Calls.mono hc ?_
    rintro e w' ⟨rfl, rfl⟩
    refine ⟨rfl, ?_⟩
    have : L.set i (row 2 (.slice none 0 0) (iv (srt []))) = L := by
      obtain ⟨hlt, heq⟩ := List.getElem?_eq_some_iff.1 hi
      have e : srt [] = [] := by simp [srt]
      rw [e, ← heq, List.set_getElem_self]
    rw [this]; exact hS
  · simp only [row] at hv h1 h4 hh
    rw [iv_len] at hv h1 h4
    have hblk : g < w.heap.size := (Array.getElem?_eq_some_iff.1 hh).1
    have hH : Go.Sort.Holds (Value.int .i64) w g 0 xs.toArray := holds_of_blockI hh h4
    have hc := AnyM.slices_Sort_int Tryz.mSort g 0 cap xs w hH hblk hl
    subst hv
    refine Calls.mono hc ?_
    rintro e w' ⟨rfl, n, os, rfl⟩
    refine ⟨rfl, ?_⟩
    have hlen : (srt xs).length = xs.length := srt_len xs
    refine hS.put i hi ?_ (row 2 (.slice (some ⟨g, 0, none⟩) xs.length cap) (iv (srt xs))) (.inr (.inr ⟨rfl, g, cap, _, ?_, hB, heap_sortedI _ hh, ?_, h2, ?_, ?_⟩)) (.inl rfl)
    · exact grownBy_sortedI _
    · simp [row, iv_len, hlen]
    · simp [row, iv_len, hlen]; omega
    · simp [Go.Sort.putCells, h3]
    · have := take_putCellsI cur (srt xs) (by omega)
      rw [hlen] at this
      have hlen' : (xs.mergeSort fun x y => decide (x ≤ y)).length = xs.length := hlen
      simpa [row, iv, srt, hlen'] using this
end Go.Proofs.YtljemlfocajhnaaGreat
end

section
/- Images of sets under permutations; ranks of permutations. In plain terms. -/
namespace Go.Proofs.YtljemlfocajhnaaGreat
set_option linter.unusedSimpArgs false
set_option linter.unusedVariables false
theorem incB_pw : ∀ {xs : List Int} {l n : Int}, incB l n xs = true → xs.Pairwise (· < ·)
  | [], _, _, _ => List.Pairwise.nil
  | x :: t, l, n, h => by
    unfold incB at h; split at h
    · simp at h
    · exact List.Pairwise.cons (fun y hy => (incB_gt h y hy).1) (incB_pw h)
theorem srt_up (xs : List Int) : (srt xs).Pairwise (· ≤ ·) := msort_sorted xs
/-! ### ranks -/
end Go.Proofs.YtljemlfocajhnaaGreat
end

section
/- Plain: the design of the pairs of a schedule, and its classes. -/
namespace Go.Proofs.YtljemlfocajhnaaGreat
set_option linter.unusedSimpArgs false
set_option linter.unusedVariables false
section
variable {n : Nat} {R : List (List (List Int))}
/-- the pairs, in order -/
def dsL (R : List (List (List Int))) : List (List Int) := srtL R.flatten
theorem VS.fgd (h : VS n R) {b : List Int} (hb : b ∈ dsL R) : GdP n b := by
  obtain ⟨q, hq, hbq⟩ := List.mem_flatten.1 ((srtL_perm _).mem_iff.1 hb)
  exact gdP_t (h.gd q hq b hbq)
theorem GdP.len {n : Int} {b : List Int} (h : GdP n b) : b.length = 2 := by rw [h.eq]; rfl
theorem VS.dnd (h : VS n R) : (dsL R).Nodup := (srtL_perm _).nodup_iff.2 h.nd
theorem VS.dst (h : VS n R) {i j : Nat} (hij : i < j) (hj : j < (dsL R).length) : cmpI (xat (dsL R) i) (xat (dsL R) j) < 0 := by
  have hp := List.pairwise_iff_getElem.1 (srtL_pw R.flatten) i j (by unfold dsL at hj; omega) hj hij
  have hle : cmpI (xat (dsL R) i) (xat (dsL R) j) ≤ 0 := by
    rw [xat_eq (show i < (dsL R).length by omega), xat_eq hj]
    exact of_decide_eq_true hp
  rcases Int.lt_or_eq_of_le hle with h1 | h1
  · exact h1
  · have e := cmpI_eq h1
    rw [xat_eq (show i < (dsL R).length by omega), xat_eq hj] at e
    exact absurd e (List.pairwise_iff_getElem.1 (List.nodup_iff_pairwise_ne.1 h.dnd) i j (by omega) hj hij)
theorem VS.par (h : VS n R) {x y : Nat} (hxy : x < y) (hy : y < n) : parF (dsL R) x y = 1 := by
  rw [parF, dsL, cntD_perm (srtL_perm _), cntD, ← List.countP_eq_length_filter]
  rw [show List.countP (fun b => decide ((x : Int) ∈ b) && decide ((y : Int) ∈ b)) R.flatten = List.count [(x : Int), (y : Int)] R.flatten from ?_]
  · rw [List.Nodup.count h.nd, if_pos (h.al x y hxy hy)]; rfl
  · rw [List.count]
    refine List.countP_congr fun b hb => ?_
    have hG := h.fgd ((srtL_perm _).mem_iff.2 hb)
    have a1 := hG.lt
    have e := hG.eq
    constructor
    · intro hm
      simp only [Bool.and_eq_true, decide_eq_true_eq] at hm
      obtain ⟨h1, h2⟩ := hm
      rw [e] at h1 h2
      simp only [List.mem_cons, List.not_mem_nil, or_false] at h1 h2
      rw [beq_iff_eq, e, show nth b 0 = (x : Int) by omega, show nth b 1 = (y : Int) by omega]
    · intro hm
      rw [beq_iff_eq] at hm
      subst hm
      simp
end
section
variable {n : Nat} {R : List (List (List Int))}
theorem VS.rin (h : VS n R) {q : List (List Int)} (hq : q ∈ R) : ∀ x ∈ q.flatten, 0 ≤ x ∧ x < n := fun x hx => by
  obtain ⟨p, hp, hxp⟩ := List.mem_flatten.1 hx
  have hG := gdP_t (h.gd q hq p hp)
  have a1 := hG.lt
  have a2 := hG.lo
  have a3 := hG.hi
  rw [hG.eq] at hxp
  simp only [List.mem_cons, List.not_mem_nil, or_false] at hxp
  omega
end
end Go.Proofs.YtljemlfocajhnaaGreat
end

section
/- Walks: squares that are made. -/
namespace Go.Proofs.YtljemlfocajhnaaGreat
set_option linter.unusedSimpArgs false
set_option linter.unusedVariables false
open Go.RowKit

theorem Tryz.info_iss : (Tryz.prog.info? 24).map (fun i => (i.zero, i.size, i.bytes)) = some (some (.slice none 0 0), 1, 24) := by kernel_rfl
section
variable {ops : Array Oper} {rest : List Oper} {o : Oper} {a : Act} {Q : Exit → Act → World → Prop} {B : Nat} {w0 w : World} {L : List Ent}
/-- append of one square to an owned row of squares -/
theorem appIII (hS : St B w0 w L) (i : Nat) {v : Value} {us : List Value} (hi : L[i]? = some (row 24 v us)) (hN : us.length < 4294967296) (hg : o.guard = none) (s x : Operand)
    (hop : o.op = .call { callee := .builtin .append, args := #[s, x], argTypes := #[63, 63] }) (hs : a.eval s = v) (u : Value) (hu : u.oneCell' = true) (hx : a.eval x = .slice (some ⟨w.heap.size, 0, none⟩) 1 1)
    (hK : ∀ v' w', St B w0 w' (L.set i (row 24 v' (us ++ [u]))) → wpList Tryz.prog ops Q rest (a.put o.dst v') w') :
    wpList Tryz.prog ops Q (o :: rest) a (w.alloc (.cells #[u] 24)) :=
  wpList_st_app1 hg s x 63 hop 24 (.slice none 0 0) 24 Tryz.und_isss Tryz.info_iss rfl hS i hi hs u hx hu (by omega) hN hK
end
/-- behind the append of a square of its own -/
theorem own3_snoc {B : Nat} {w0 w : World} {v v' u : Value} {vs : List Value} {uss : List (List Value)} {X : List (List (List Int))} {us : List Value} {x : List (List Int)} (h1 : vs.length = X.length) (h2 : uss.length = X.length)
    (h : St B w0 w ((own3 v vs uss X ++ own2 u us x).set 0 (row 24 v' (vs ++ [u])))) : St B w0 w (own3 v' (vs ++ [u]) (uss ++ [us]) (X ++ [x])) := by
  rw [own3, rows3_app _ _ _ h1 h2]
  exact h
theorem Fit3.snoc {vs : List Value} {uss : List (List Value)} {X : List (List (List Int))} (h : Fit3 vs uss X) (v : Value) {us : List Value} {x : List (List Int)} (hx : us.length = x.length) : Fit3 (vs ++ [v]) (uss ++ [us]) (X ++ [x]) :=
  ⟨by simp [h.1], by simp [h.2.1], fun k hk => by
    by_cases e : k < X.length
    · have e1 : vsat (uss ++ [us]) k = vsat uss k := by unfold vsat; rw [List.getD_eq_getElem?_getD, List.getElem?_append_left (by rw [h.2.1]; exact e), ← List.getD_eq_getElem?_getD]
      have e2 : x3at (X ++ [x]) k = x3at X k := by unfold x3at; rw [List.getD_eq_getElem?_getD, List.getElem?_append_left e, ← List.getD_eq_getElem?_getD]
      rw [e1, e2]; exact h.2.2 k e
    · have hk' : k = X.length := by simp at hk; omega
      have e1 : vsat (uss ++ [us]) k = us := by unfold vsat; rw [hk', ← h.2.1]; simp
      have e2 : x3at (X ++ [x]) k = x := by unfold x3at; rw [hk']; simp
      rw [e1, e2]; exact hx⟩

theorem RdI.shq {w : World} {v : Value} {xs : List Int} (h : RdI w v xs) : ∃ a c, v = .slice a xs.length c := by
  obtain ⟨a, c, hv⟩ := h.sl.sh
  rw [iv_len] at hv
  exact ⟨a, c, hv⟩
/-- a square by its entries -/
def sqF (n : Nat) (f : Nat → Nat → Int) : List (List Int) := (List.range n).map fun x => tab n (f x)
theorem sqF_len (n : Nat) (f : Nat → Nat → Int) : (sqF n f).length = n := by simp [sqF]
theorem xat_sqF {n : Nat} {f : Nat → Nat → Int} {x : Nat} (h : x < n) : xat (sqF n f) x = tab n (f x) := by simp [sqF, xat, h]
theorem sqF_take {n : Nat} {f : Nat → Nat → Int} {k : Nat} (h : k < n) : (sqF n f).take (k + 1) = (sqF n f).take k ++ [tab n (f k)] := by
  rw [take_xat (by rw [sqF_len]; exact h), xat_sqF h]
theorem tab_succ (k : Nat) (f : Nat → Int) : tab (k + 1) f = tab k f ++ [f k] := by simp [tab, List.range_succ]
set_option maxHeartbeats 2000000 in
set_option maxRecDepth 100000 in
theorem filledSquare_c (K : FuncId) (caps : Array Value) (f : Nat → Nat → Int) (n : Nat) (w : World) (hn : n ≤ 4096)
    (hcf : ∀ (args : Array Value) (W : World), (callFunc K args).run Tryz.prog W = .ok (.enter K args) W)
    (hK : ∀ (x y : Nat) (W : World), St w.heap.size w W [] → x < n → y < n → Calls Tryz.prog K (#[.int .i64 x, .int .i64 y] ++ caps) W (GivesI W (f x y))) :
    Calls Tryz.prog 106 #[.int .i64 n, .func (.func K) #[] caps] w (MakesII w (sqF n f)) := by
  have HK := Lib.hid hK
  clear hK
  have hS0 := (St.refl w).newnil 46
  go_enter Tryz.func106, Tryz.ntmps106
  go_wp2_with fail
  go_loopw [5, 6, 7, 8] (fun o ii _ _ wr => ∃ (k : Nat) (us : List Value), k ≤ n ∧ ii = .int .i64 k ∧ Hid (us.length = k) ∧ St w.heap.size w wr (own2 o us ((sqF n f).take k))) (fun _ ii _ _ _ => n - (intOf ii).toNat)
  case atStart => exact ⟨0, [], by omega, rfl, rfl, hS0⟩
  case round =>
    obtain ⟨k, us, hk, rfl, hl, hS⟩ := hrel
    have Hlu := Lib.hid (show us.length = ((sqF n f).take k).length by rw [List.length_take, sqF_len, hl.out]; omega)
    by_cases hlt : k < n
    · have hS1 := (hS.newnil 2).perm List.perm_append_comm
      simp only [List.cons_append, List.nil_append] at hS1
      have Hst := Lib.hid (sqF_take (f := f) hlt)
      go_wp2_with fail
      go_loopw [7, 8] (fun r jj wx => ∃ j : Nat, j ≤ n ∧ jj = .int .i64 j ∧ St w.heap.size w wx (row 2 r (iv (tab j (f k))) :: own2 u5 us ((sqF n f).take k))) (fun _ jj _ => n - (intOf jj).toNat)
      case atStart => exact ⟨0, by omega, rfl, hS1⟩
      case round =>
        obtain ⟨j, hj, rfl, hS2⟩ := hrel
        by_cases hjn : j < n
        · have Hts := Lib.hid (tab_succ j (f k))
          have Htl := Lib.hid (show (tab j (f k)).length < 4294967296 by rw [tab_len]; omega)
          go_wp2_with fail
          refine (HK.out k j _ hS2.out hlt hjn).mono ?_
          rintro e w3 ⟨rfl, h3⟩
          have hS3 := hS2.call0 h3
          go_wp2_with (at_builtin; refine appI hS3 0 rfl Htl.out rfl _ _ rfl rfl _ rfl ?_; intro v4 w4 hS4)
          go_roundw
          case rel => exact ⟨j + 1, by omega, by go_num, by rw [Hts.out]; exact hS4⟩
          case measure => simp [intOf]; omega
        · have hje : j = n := by omega
          rw [hje] at hS2
          clear hje
          obtain ⟨ar, cr, hre⟩ := (hS2.rdI 0 rfl).shq
          subst hre
          have Htl := Lib.hid (show (tab n (f k)).length = n from tab_len _ _)
          go_wp2_with (at_builtin; refine appII hS2 1 rfl (by rw [hl.out]; omega) rfl _ _ rfl rfl _ rfl rfl ?_; intro v4 w4 hS4)
          go_roundw
          case rel =>
            refine ⟨k + 1, us ++ [.slice ar (tab n (f k)).length cr], by omega, by go_num, by simp [Hid, hl.out], ?_⟩
            rw [Hst.out, own2, rowsI_app Hlu.out]
            simp only [own2, List.set_cons_succ, List.set_cons_zero] at hS4
            exact hS4.perm (by (try simp only [own2, List.cons_append, List.nil_append, List.append_nil]); classical exact List.perm_iff_count.2 (fun a => by simp only [List.cons_append, List.nil_append, List.append_nil, List.count_append, List.count_cons, List.count_nil] <;> omega))
          case measure => simp [intOf]; omega
    · have hke : k = n := by omega
      have HL := Lib.hid (show us.length = (sqF n f).length by rw [hl.out, sqF_len, hke])
      rw [hke, List.take_of_length_le (by rw [sqF_len]; exact Nat.le_refl _)] at hS
      clear hke
      go_wp2_with fail
      go_ret
      exact ⟨_, us, rfl, HL.out, hS⟩
theorem emptySquare1_c (x y : Int) (w : World) : Calls Tryz.prog 107 #[.int .i64 x, .int .i64 y] w (GivesI w 0) := by
  go_enter Tryz.func107, Tryz.ntmps107
  go_wp2_with fail
  go_ret
  exact ⟨rfl, St.refl w⟩
theorem emptySquare_c (n : Nat) (w : World) (hn : n ≤ 4096) : Calls Tryz.prog 101 #[.int .i64 n] w (MakesII w (sqF n fun _ _ => 0)) := by
  have hcf := callFunc_go Tryz.func107 (by kernel_rfl) (by kernel_rfl)
  have hcall := Lib.hid (filledSquare_c 107 #[] (fun _ _ => 0) n w hn hcf (fun x y W _ _ _ => emptySquare1_c x y W))
  clear hcf
  go_enter Tryz.func101, Tryz.ntmps101
  go_wp2_with fail
  refine hcall.out.mono ?_
  rintro e w1 ⟨v, us, rfl, hl, h1⟩
  have Hl := Lib.hid hl
  clear hl
  go_wp2_with fail
  go_ret
  exact ⟨v, us, rfl, Hl.out, h1⟩
end Go.Proofs.YtljemlfocajhnaaGreat
end

section
/- Walks: pairs, and the schedule of the circle method, of the program. -/
namespace Go.Proofs.YtljemlfocajhnaaGreat
set_option linter.unusedSimpArgs false
set_option linter.unusedVariables false
open Go.RowKit
attribute [local go_sem ↓] Go.wp_at_zero Go.wp_at_succ
theorem prL_len (a b : Int) : (prL a b).length = 2 := by unfold prL; split <;> rfl
/-- behind the append of a row of its own, with more behind -/
theorem own2_snocL {B : Nat} {w0 w : World} {v v' : Value} {us : List Value} {xss : List (List Int)} {u : Value} {xs : List Int} {L2 : List Ent} (hl : us.length = xss.length)
    (h : St B w0 w ((own2 v us xss ++ L2 ++ [row 2 u (iv xs)]).set 0 (row 46 v' (us ++ [u])))) : St B w0 w (own2 v' (us ++ [u]) (xss ++ [xs]) ++ L2) := by
  rw [own2, rowsI_app hl]
  refine h.perm ?_
  show (row 46 v' (us ++ [u]) :: (rowsI us xss ++ L2 ++ [row 2 u (iv xs)])).Perm (row 46 v' (us ++ [u]) :: (rowsI us xss ++ [row 2 u (iv xs)] ++ L2))
  refine List.Perm.cons _ ?_
  rw [List.append_assoc, List.append_assoc]
  exact List.Perm.append_left _ List.perm_append_comm
/-- lists of lists of rows, and a code -/
def MkIII (w : World) (X : List (List (List Int))) (c : Int) (e : Ending) (w' : World) : Prop := ∃ v vs uss, e = .returned (.tuple #[v, .int .i64 c]) ∧ Fit3 vs uss X ∧ St w.heap.size w w' (own3 v vs uss X)
theorem MkIII.riii {w w' : World} {v : Value} {vs : List Value} {uss : List (List Value)} {X : List (List (List Int))} (hf : Fit3 vs uss X) (h : St w.heap.size w w' (own3 v vs uss X)) : RIII w' v vs uss X := St.riii (L2 := []) (by rw [List.append_nil]; exact h) hf
end Go.Proofs.YtljemlfocajhnaaGreat
end

section
/- Slices of truth values. -/
namespace Go.Proofs.YtljemlfocajhnaaGreat
set_option linter.unusedSimpArgs false
set_option linter.unusedVariables false
open Go.RowKit
/-- the cells of a list of truth values -/
def bo (xs : List Bool) : List Value := xs.map Value.bool
/-- element j -/
def bat (xs : List Bool) (j : Nat) : Bool := xs.getD j false
theorem bo_len (xs : List Bool) : (bo xs).length = xs.length := by simp [bo]
theorem bo_get {xs : List Bool} {j : Nat} (h : j < xs.length) : (bo xs).getD j undef = .bool (bat xs j) := by
  simp [bo, bat, List.getD, List.getElem?_eq_getElem h]
theorem bo_set (xs : List Bool) (j : Nat) (x : Bool) : (bo xs).set j (.bool x) = bo (xs.set j x) := by simp [bo, List.map_set]
theorem bo_rep (n : Nat) : List.replicate n (Value.bool false) = bo (List.replicate n false) := by simp [bo]
theorem bat_set {xs : List Bool} {i j : Nat} {x : Bool} (h : i < xs.length) : bat (xs.set i x) j = if i = j then x else bat xs j := by
  unfold bat
  rw [List.getD_eq_getElem?_getD, List.getElem?_set]
  split
  · rename_i e; subst e; simp [h]
  · simp
theorem bat_rep (n j : Nat) : bat (List.replicate n false) j = false := by
  unfold bat
  rw [List.getD_eq_getElem?_getD, List.getElem?_replicate]; split <;> rfl
def RdO (w : World) (v : Value) (xs : List Bool) : Prop := Rd w v (bo xs)
theorem Tryz.info_o : (Tryz.prog.info? 4).map (fun i => (i.zero, i.size, i.bytes)) = some (some (.bool false), 1, 1) := by kernel_rfl
theorem Tryz.size_o : (Tryz.prog.info? 4).map (·.size) = some 1 := by kernel_rfl
theorem Tryz.und_os : Tryz.prog.underlying 42 = some (.slice 4) := by kernel_rfl
section
variable {w w' : World} {v : Value} {xs : List Bool}
theorem RdO.le (h : RdO w v xs) : xs.length ≤ 9223372036854775807 := by have := h.sl.le; rwa [bo_len] at this
theorem RdO.len (h : RdO w v xs) (ty : TypeId) (W : World) : (Builtin.len_ #[42] ty #[v]).run Tryz.prog W = .ok (.int .i64 xs.length) W := by
  have := run_len_sl (P := Tryz.prog) h.sl 42 ty Tryz.und_os W; rwa [bo_len] at this
theorem RdO.ix (h : RdO w v xs) (k : IntKind) (i : Int) (h0 : 0 ≤ i) (hi : i < xs.length) (W : World) :
    (Instr.indexAt 42 v (.int k i)).run Tryz.prog W = .ok (.pointer (some (el v i.toNat))) W :=
  run_ix_sl (P := Tryz.prog) h.sl 42 Tryz.und_os Tryz.size_o k i h0 (by rw [bo_len]; exact hi) W
theorem RdO.ixe (h : RdO w v xs) (i : Int) (j : Nat) (hij : i = (j : Int)) (hj : j < xs.length) (W : World) :
    (Instr.indexAt 42 v (.int .i64 i)).run Tryz.prog W = .ok (.pointer (some (el v j))) W := by
  have := h.ix .i64 i (by omega) (by omega) W
  rwa [hij, Int.toNat_natCast, ← hij] at this
theorem RdO.cell (h : RdO w v xs) (j : Nat) (hj : j < xs.length) : w.cell? (el v j) = some (.bool (bat xs j)) := by
  rw [Rd.cell h (by rw [bo_len]; exact hj), bo_get hj]
theorem RdO.keep (h : RdO w v xs) (hb : Below w.heap.size w w') : RdO w' v xs := Rd.keep h hb
end
theorem St.rdO {B : Nat} {w0 w : World} {L : List Ent} (h : St B w0 w L) (i : Nat) {e : TypeId} {v : Value} {xs : List Bool} (hi : L[i]? = some (row e v (bo xs))) : RdO w v xs := h.rd i hi
section
variable {ops : Array Oper} {rest : List Oper} {o : Oper} {a : Act} {Q : Exit → Act → World → Prop} {B : Nat} {w0 w : World} {L : List Ent}
/-- a store into an owned row of truth values -/
theorem stoO (hS : St B w0 w L) (i : Nat) {v : Value} {xs : List Bool} (hi : L[i]? = some (row 4 v (bo xs))) (j : Nat) (hj : j < xs.length) (hg : o.guard = none) (x y : Operand)
    (hop : o.op = .store 4 x y) (hx : a.eval x = .pointer (some (el v j))) (n : Bool) (hy : a.eval y = .bool n)
    (hK : ∀ w', St B w0 w' (L.set i (row 4 v (bo (xs.set j n)))) → wpList Tryz.prog ops Q rest (a.put o.dst undef) w') :
    wpList Tryz.prog ops Q (o :: rest) a w :=
  wpList_st_store hg x y 4 hop Tryz.size_o hS i hi j (by rw [bo_len]; exact hj) (.bool n) hx hy rfl rfl (fun w' h => hK w' (by rw [← bo_set]; exact h))
/-- make([]bool, n) -/
theorem mkO (hS : St B w0 w L) (hg : o.guard = none) (x y : Operand) (hop : o.op = .makeSlice 42 x y) (kl kc : IntKind) (n : Nat) (hx : a.eval x = .int kl n) (hy : a.eval y = .int kc n) (hN : n ≤ 4294967296)
    (hK : ∀ v' w', St B w0 w' (L ++ [row 4 v' (bo (List.replicate n false))]) → wpList Tryz.prog ops Q rest (a.put o.dst v') w') :
    wpList Tryz.prog ops Q (o :: rest) a w :=
  wpList_st_make hg x y 42 hop 4 (.bool false) 1 Tryz.und_os Tryz.info_o rfl hS kl kc n hx hy (by omega) hN (fun v' w' h => hK v' w' (by rw [← bo_rep]; exact h))
end
end Go.Proofs.YtljemlfocajhnaaGreat
end

section
/- Walks: binary search among rows, a class of blocks, a resolution, of the program. -/
namespace Go.Proofs.YtljemlfocajhnaaGreat
set_option linter.unusedSimpArgs false
set_option linter.unusedVariables false
open Go.RowKit
attribute [local go_sem ↓] Go.wp_at_zero Go.wp_at_succ

theorem IndexO_c (v : Value) (xs : List Bool) (w : World) (hv : RdO w v xs) (ha : ∀ j, j < xs.length → bat xs j = true) :
    Calls Tryz.prog 38 #[v, .bool false] w fun e w' => e = .returned (.int .i64 (-1)) ∧ w = w' := by
  have hln := hv.len
  have hix := hv.ixe
  have hle := hv.le
  have HA := Lib.hid ha
  clear ha
  go_enter Tryz.func38, Tryz.ntmps38
  go_wp2_with fail
  go_loopw [8, 5] (fun i _ wr => ∃ k : Nat, k ≤ xs.length ∧ i = .int .i64 k ∧ w = wr) (fun i _ _ => xs.length - (intOf i).toNat)
  case atStart => exact ⟨0, by omega, rfl, rfl⟩
  case round =>
    obtain ⟨k, hk, rfl, rfl⟩ := hrel
    by_cases hlt : k < xs.length
    · have hx := hix (k : Int) k rfl hlt
      have hc := hv.cell k hlt
      rw [HA.out k hlt] at hc
      go_wp2_with fail
      go_roundw
      case rel => exact ⟨k + 1, by omega, by go_num, by first | trivial | rfl⟩
      case measure => simp [intOf]; omega
    · obtain rfl : k = xs.length := by omega
      go_wp2_with fail
      go_ret
      exact ⟨rfl, rfl⟩
theorem ContainsO_c (v : Value) (xs : List Bool) (w : World) (hv : RdO w v xs) (ha : ∀ j, j < xs.length → bat xs j = true) :
    Calls Tryz.prog 44 #[v, .bool false] w fun e w' => e = .returned (.bool false) ∧ w = w' := by
  have K := IndexO_c v xs w hv ha
  go_enter Tryz.func44, Tryz.ntmps44
  go_wp2_with fail
  refine K.mono ?_
  rintro e w1 ⟨rfl, hw⟩
  subst hw
  go_wp2_with fail
  go_ret
  exact ⟨rfl, rfl⟩

/-- which points are covered -/
structure CV (n : Nat) (T : List Int) (P : List Bool) : Prop where
  len : P.length = n
  el : ∀ x : Nat, x < n → bat P x = decide ((x : Int) ∈ T)
theorem CV.nil (n : Nat) : CV n [] (List.replicate n false) := ⟨by simp, fun x _ => by rw [bat_rep]; simp⟩
theorem CV.snoc {n : Nat} {T : List Int} {P : List Bool} (h : CV n T P) {a : Nat} (ha : a < n) : CV n (T ++ [(a : Int)]) (P.set a true) := by
  refine ⟨by simp [h.len], fun x hx => ?_⟩
  rw [bat_set (by rw [h.len]; exact ha), h.el x hx]
  by_cases e : a = x
  · subst e; simp
  · rw [if_neg e]
    have : ((x : Int) ∈ T ++ [(a : Int)]) ↔ (x : Int) ∈ T := by
      simp only [List.mem_append, List.mem_singleton]
      constructor
      · rintro (h | h)
        · exact h
        · omega
      · exact .inl
    simp only [this]
/-- the points ahead of place j of block k -/
def cvd (q : List (List Int)) (k j : Nat) : List Int := (q.take k).flatten ++ (xat q k).take j
theorem cvd_snoc {q : List (List Int)} {k j : Nat} (hj : j < (xat q k).length) : cvd q k (j + 1) = cvd q k j ++ [nth (xat q k) j] := by
  rw [cvd, List.take_succ_eq_append_getElem hj, ← List.append_assoc, nth_eq hj]; rfl
theorem cvd_next {q : List (List Int)} {k : Nat} (hk : k < q.length) : cvd q (k + 1) 0 = cvd q k (xat q k).length := by
  rw [cvd, take_xat hk]; simp [cvd]
theorem cvd_end (q : List (List Int)) : cvd q q.length 0 = q.flatten := by simp [cvd]
theorem cvd_pre {q : List (List Int)} {k j : Nat} (hk : k < q.length) (hj : j < (xat q k).length) : ∃ t, q.flatten = cvd q k j ++ [nth (xat q k) j] ++ t := by
  rw [← cvd_snoc hj]
  refine ⟨(xat q k).drop (j + 1) ++ (q.drop (k + 1)).flatten, ?_⟩
  rw [cvd, List.append_assoc, ← List.append_assoc ((xat q k).take (j + 1)), List.take_append_drop, ← List.flatten_cons, ← drop_xat hk, ← List.flatten_append, List.take_append_drop]
set_option maxHeartbeats 8000000 in
set_option maxRecDepth 100000 in
theorem isClass_c (n : Nat) (v vc : Value) (us : List Value) (A q : List (List Int)) (xs : List Int) (w : World) (hn : n ≤ 32) (hv : RII w v us A) (hc : RdI w vc xs) (hA : A.length ≤ 128) (hl : xs.length = q.length)
    (hxs : ∀ j, j < q.length → ∃ i : Nat, nth xs j = i ∧ i < A.length ∧ xat A i = xat q j) (hinc : ∀ j, j + 1 < q.length → nth xs j < nth xs (j + 1))
    (hnd : q.flatten.Nodup) (hin : ∀ x ∈ q.flatten, 0 ≤ x ∧ x < n) (hall : ∀ x : Nat, x < n → (x : Int) ∈ q.flatten) :
    Calls Tryz.prog 16 #[dv n v, vc] w (GivesB w true) := by
  obtain ⟨a, c, hsh⟩ := hv.1.sl.sh
  rw [hv.2.1] at hsh
  subst hsh
  have hlc := hc.len
  have hic := hc.ixe
  have hlec := hc.le
  rw [hl] at hlc hlec
  have hS1 := (St.refl w).newboxF 26 #[.int .i64 n, .slice a A.length c]
  simp only [List.nil_append] at hS1
  have b0 := hS1.bcell 0 rfl 0 rfl
  have b1 := hS1.bcell 0 rfl 1 rfl
  have HX := Lib.hid hxs
  have HI := Lib.hid hinc
  have HP := fun k j hk hj => Lib.hid (cvd_pre (q := q) (k := k) (j := j) hk hj)
  have HN := Lib.hid hnd
  have HB := Lib.hid hin
  have HA := Lib.hid hall
  have hlA := hv.len
  have hiA := hv.ixe
  have HS := fun W h => Lib.hid (szII_c (.slice a A.length c) us A W h)
  clear hxs hinc hnd hin hall
  unfold dv
  go_enter Tryz.func16, Tryz.ntmps16
  go_wp2_with (refine mkO hS1 rfl _ _ rfl .i64 .i64 n rfl rfl (by omega) ?_; intro vp w2 hS2)
  have hS2 := hS2.perm (L' := row 4 vp (bo (List.replicate n false)) :: [box 26 w.heap.size [.int .i64 n, .slice a A.length c]]) List.perm_append_comm
  clear b0 b1 hS1
  go_loopw [16, 6, 8, 10] (fun i l _ _ wr => ∃ (k : Nat) (z : Int) (P : List Bool), k ≤ q.length ∧ i = .int .i64 k ∧ l = .int .i64 z ∧ (-1 ≤ z ∧ z ≤ 128) ∧ Hid ((k = 0 → z = -1) ∧ (0 < k → z = nth xs (k - 1)) ∧ CV n (cvd q k 0) P) ∧ St w.heap.size w wr (row 4 vp (bo P) :: [box 26 w.heap.size [.int .i64 n, .slice a A.length c]])) (fun i _ _ _ _ => q.length - (intOf i).toNat)
  case atStart => exact ⟨0, -1, _, by omega, rfl, rfl, by omega, ⟨fun _ => rfl, fun h => by omega, CV.nil n⟩, hS2⟩
  case round =>
    clear hS2
    obtain ⟨k, z, P, hk, rfl, rfl, hz, hI, hS⟩ := hrel
    by_cases hlt : k < q.length
    · obtain ⟨i, hi1, hi2, hi3⟩ := HX.out k hlt
      have hzi : z < i := by
        by_cases e : k = 0
        · have := hI.out.1 e; omega
        · have h1 := hI.out.2.1 (by omega)
          have h2 := HI.out (k - 1) (by omega)
          rw [show k - 1 + 1 = k by omega, hi1] at h2
          omega
      have hx := hic (k : Int) k rfl (by omega)
      have hcx := (hS.oldI hc).cell k (by omega)
      rw [hi1] at hcx
      have b1 := hS.bcell 1 rfl 1 rfl
      have KS := HS _ (hS.oldII hv)
      have hW := within_c (i : Int) (z + 1) ((A.length : Int) - 1)
      rw [inB_true (by omega)] at hW
      have hxi := hiA (i : Int) i rfl hi2
      have hci := (hS.oldII hv).cell i hi2
      have hri := hv.row i hi2
      have hlr := hri.len
      have hir := hri.ixe
      have hler := hri.le
      rw [hi3] at hlr hir hler
      have Hi3 := Lib.hid hi3
      have Hi1 := Lib.hid hi1
      clear hri hi3 hi1
      go_wp2_with (first
        | (go_at_call 19; refine KS.out.mono ?_; rintro e2 w4 ⟨rfl, hw4⟩; subst hw4)
        | (go_at_call 37; refine (hW _).mono ?_; rintro e2 w4 ⟨rfl, hw4⟩; subst hw4))
      go_loopw [36, 10] (fun i _ wr => ∃ (j : Nat) (P : List Bool), j ≤ (xat q k).length ∧ i = .int .i64 j ∧ Hid (CV n (cvd q k j) P) ∧ St w.heap.size w wr (row 4 vp (bo P) :: [box 26 w.heap.size [.int .i64 n, .slice a A.length c]])) (fun i _ _ => (xat q k).length - (intOf i).toNat)
      case atStart => exact ⟨0, P, by omega, rfl, hI.out.2.2, hS⟩
      case round =>
        clear hS
        obtain ⟨j, P, hj, rfl, hJ, hS⟩ := hrel
        by_cases hjt : j < (xat q k).length
        · obtain ⟨t, ht⟩ := (HP k j hlt hjt).out
          have hy := HB.out (nth (xat q k) j) (by rw [ht]; simp)
          have hny : nth (xat q k) j ∉ cvd q k j := by
            have := HN.out
            rw [ht] at this
            have := (List.nodup_append.1 (List.nodup_append.1 this).1).2.2
            intro hm
            exact this _ hm _ (by simp) rfl
          obtain ⟨y, hyy⟩ := Int.eq_ofNat_of_zero_le hy.1
          have hyn : y < n := by omega
          have hlP := hJ.out.len
          have hr := (hS.oldII hv).row i hi2
          rw [Hi3.out] at hr
          have hcj := hr.cell j hjt
          have hxj := hir (j : Int) j rfl hjt
          rw [hyy] at hcj
          have rP := hS.rdO 0 (e := 4) rfl
          have hcy := rP.cell y (by omega)
          have hxy := rP.ixe (y : Int) y rfl (by omega)
          rw [hJ.out.el y hyn, ← hyy, decide_eq_false hny] at hcy
          have HC := Lib.hid (cvd_snoc hjt)
          rw [hyy] at HC
          have HlP := Lib.hid hlP
          clear ht hny hy hyy hr rP hlP
          go_wp2_with (refine stoO hS 0 rfl y (by rw [HlP.out]; exact hyn) rfl _ _ rfl rfl true rfl ?_; intro w5 hS5; simp only [List.set_cons_zero] at hS5)
          go_roundw
          case rel => exact ⟨j + 1, _, by omega, by go_num, by rw [HC.out]; exact hJ.out.snoc hyn, hS5⟩
          case measure => simp [intOf]; omega
        · obtain rfl : j = (xat q k).length := by omega
          go_wp2_with fail
          go_roundw
          case rel => exact ⟨k + 1, i, P, by omega, by go_num, rfl, by omega, ⟨fun h => by omega, fun _ => by rw [Nat.add_sub_cancel]; exact Hi1.out.symm, by rw [cvd_next hlt]; exact hJ.out⟩, hS⟩
          case measure => simp [intOf]; omega
    · obtain rfl : k = q.length := by omega
      have rP := hS.rdO 0 (e := 4) rfl
      have KC := Lib.hid (ContainsO_c vp P _ rP (fun j hj => by
        have h1 := hI.out.2.2.el j (by rw [← hI.out.2.2.len]; exact hj)
        rw [h1, cvd_end]
        exact decide_eq_true (HA.out j (by rw [← hI.out.2.2.len]; exact hj))))
      go_wp2_with (go_at_call 44; refine KC.out.mono ?_; rintro e2 w4 ⟨rfl, hw4⟩; subst hw4)
      go_ret
      exact ⟨rfl, hS.out⟩
/-- a resolution: the numbers of the blocks of each class -/
structure ResH (n : Nat) (A : List (List Int)) (R : List (List (List Int))) (X : List (List Int)) : Prop where
  n32 : n ≤ 32
  ok : dOk n A = true
  len : X.length = R.length
  rl : ∀ r, r < R.length → (xat X r).length = (x3at R r).length
  ix : ∀ r, r < R.length → ∀ j, j < (x3at R r).length → ∃ i : Nat, nth (xat X r) j = i ∧ i < A.length ∧ xat A i = xat (x3at R r) j
  inc : ∀ r, r < R.length → ∀ j, j + 1 < (x3at R r).length → nth (xat X r) j < nth (xat X r) (j + 1)
  nd : ∀ r, r < R.length → (x3at R r).flatten.Nodup
  rin : ∀ r, r < R.length → ∀ x ∈ (x3at R r).flatten, 0 ≤ x ∧ x < n
  all : ∀ r, r < R.length → ∀ x : Nat, x < n → (x : Int) ∈ (x3at R r).flatten
  srt : srt X.flatten = idn A.length
set_option maxHeartbeats 8000000 in
set_option maxRecDepth 100000 in
theorem ValidResolution_c (n : Nat) (v vc : Value) (us uc : List Value) (A X : List (List Int)) (R : List (List (List Int))) (w : World) (h : ResH n A R X) (hv : RII w v us A) (hc : RII w vc uc X) :
    Calls Tryz.prog 7 #[dv n v, vc] w (GivesB w true) := by
  obtain ⟨a, c, hsh⟩ := hv.1.sl.sh
  rw [hv.2.1] at hsh
  subst hsh
  have hlc := hc.len
  have hic := hc.ixe
  have hlec := hc.le
  have hA128 := (dOk_t h.ok).len
  have hS1 := ((St.refl w).newboxF 26 #[.int .i64 n, .slice a A.length c]).newnil 2
  have hS1 := hS1.perm (L' := row 2 (.slice none 0 0) (iv []) :: [box 26 w.heap.size [.int .i64 n, .slice a A.length c]]) List.perm_append_comm
  have H := Lib.hid h
  have KV := fun W hW => Lib.hid (ValidDesign_c n (.slice a A.length c) us A W hW)
  have HS := fun W h => Lib.hid (szII_c (.slice a A.length c) us A W h)
  have HI := fun W => Lib.hid (identity_c A.length W (by omega))
  have HC := fun r W (hr : r < R.length) (hW : RII W (.slice a A.length c) us A) (hx : RdI W (vat uc r) (xat X r)) => Lib.hid (isClass_c n (.slice a A.length c) (vat uc r) us A (x3at R r) (xat X r) W h.n32 hW hx hA128 (h.rl r hr) (h.ix r hr) (h.inc r hr) (h.nd r hr) (h.rin r hr) (h.all r hr))
  have hXt : tot X ≤ 128 := by
    have h1 := congrArg List.length h.srt
    rw [srt_len, idn_len] at h1
    have : ∀ X : List (List Int), tot X = X.flatten.length := fun X => by
      induction X with
      | nil => rfl
      | cons x r ih => rw [tot, List.flatten_cons, List.length_append, ih]
    rw [this, h1]; exact hA128
  have hXR := h.len
  rw [h.ok] at KV
  clear h
  have b0 := hS1.bcell 1 rfl 0 rfl
  have b1 := hS1.bcell 1 rfl 1 rfl
  have KV := KV _ (hS1.oldII hv)
  unfold dv at KV HC ⊢
  go_enter Tryz.func7, Tryz.ntmps7
  go_wp2_with (go_at_call 9; refine KV.out.mono ?_; rintro e2 w2 ⟨rfl, h2⟩; have hS2 := hS1.call0 h2)
  clear hS1 b0 b1 KV
  go_loopw [13, 5, 7] (fun i all _ wr => ∃ (k : Nat) (v2 : Value), v2 = all ∧ k ≤ X.length ∧ i = .int .i64 k ∧ St w.heap.size w wr (row 2 v2 (iv (X.take k).flatten) :: [box 26 w.heap.size [.int .i64 n, .slice a A.length c]])) (fun i _ _ _ => X.length - (intOf i).toNat)
  case atStart => exact ⟨0, _, rfl, by omega, rfl, hS2⟩
  case round =>
    clear hS2
    obtain ⟨k, v2, rfl, hk, rfl, hS⟩ := hrel
    have b0 := hS.bcell 1 rfl 0 rfl
    have b1 := hS.bcell 1 rfl 1 rfl
    by_cases hlt : k < X.length
    · have hx := hic (k : Int) k rfl hlt
      have hck := (hS.oldII hc).cell k hlt
      have KC := HC k _ (by omega) (hS.oldII hv) ((hS.oldII hc).row k hlt)
      have hN := Lib.hid (show (X.take k).flatten.length + (xat X k).length ≤ 4294967296 by
        have e : (X.take k).flatten.length + (xat X k).length = (X.take (k + 1)).flatten.length := by rw [take_xat hlt]; simp
        have h2 : (X.take (k + 1)).flatten.length ≤ tot X := by
          have h3 : ∀ X : List (List Int), tot X = X.flatten.length := fun X => by
            induction X with
            | nil => rfl
            | cons x r ih => rw [tot, List.flatten_cons, List.length_append, ih]
          rw [h3]
          conv => rhs; rw [← List.take_append_drop (k + 1) X, List.flatten_append, List.length_append]
          omega
        omega)
      have HT := Lib.hid (show (X.take (k + 1)).flatten = (X.take k).flatten ++ xat X k by rw [take_xat hlt]; simp)
      go_wp2_with (first
        | (at_builtin; refine appsI hS4 0 rfl _ _ hr4.out hN.out rfl _ _ rfl rfl rfl ?_; intro v5 w5 hS5; simp only [List.set_cons_zero] at hS5)
        | (go_at_call 16; refine KC.out.mono ?_; rintro e2 w4 ⟨rfl, h4⟩; have hS4 := hS.call0 h4; have hr4 := Lib.hid ((hS4.oldII hc).row k hlt)))
      go_roundw
      case rel => exact ⟨k + 1, v5, rfl, by omega, by go_num, by rw [HT.out]; exact hS5⟩
      case measure => simp [intOf]; omega
    · obtain rfl : k = X.length := by omega
      rw [List.take_length] at hS
      have HT := Lib.hid (show X.flatten.length < 4611686018427387904 by
        have h3 : ∀ X : List (List Int), tot X = X.flatten.length := fun X => by
          induction X with
          | nil => rfl
          | cons x r ih => rw [tot, List.flatten_cons, List.length_append, ih]
        rw [← h3]; omega)
      have Hs := Lib.hid H.out.srt
      go_wp2_with (first
        | (go_at_call 17; refine (Equal_c _ _ _ _ _ (hS6.rdI 0 rfl) (hS6.rdI 2 rfl)).mono ?_; rw [Hs.out, decide_eq_true rfl]; rintro e2 w7 ⟨rfl, h7⟩; have hS7 := hS6.call0 h7)
        | (go_at_call 18; refine (HI _).out.mono ?_; rintro e2 w6 ⟨v6, rfl, h6⟩; have hS6 := hS5.call h6)
        | (go_at_call 19; refine (HS _ (hS5.oldII hv)).out.mono ?_; rintro e2 w4 ⟨rfl, hw4⟩; subst hw4)
        | (go_at_call 15; refine (Sort_c hS 0 rfl HT.out).mono ?_; rintro e2 w5 ⟨rfl, hS5⟩; simp only [List.set_cons_zero] at hS5; have b0 := hS5.bcell 1 rfl 0 rfl; have b1 := hS5.bcell 1 rfl 1 rfl))
      go_ret
      exact ⟨rfl, hS7.out⟩
end Go.Proofs.YtljemlfocajhnaaGreat
end

section
/- Plain: affine planes of fields, orders of planes, classes of parallel lines, completed planes (by kernel check for the orders 2 to 5). -/
namespace Go.Proofs.YtljemlfocajhnaaGreat
set_option linter.unusedSimpArgs false
set_option linter.unusedVariables false

/-- a line that is not vertical -/
def lnS (q m b : Nat) : List Int := (List.range q).map fun x : Nat => (q : Int) * x + fsum (mkfP q) (mkfD q).toNat (fmul (mkfP q) (mkfD q).toNat (mkfL q) m x) b 1
def lnV (q m : Nat) : List Int := (List.range q).map fun x : Nat => (q : Int) * m + x
def apU (q : Nat) : List (List Int) := (List.range q).flatMap fun m => lnV q m :: (List.range q).map (lnS q m)
def apB (q : Nat) : List (List Int) := srtL (apU q)
/-- the order of a plane -/
def plO (v k : Int → Int) (V K : Int) : Nat → Int → Int
  | 0, _ => 0
  | f + 1, n => if v n ≤ V then (if v n = V ∧ k n = K then n else plO v k V K f (n + 1)) else 0
def afV (n : Int) : Int := n * n
def afK (n : Int) : Int := n
def ordP (v k : Int → Int) (P : Nat) (A : List (List Int)) : Int := if (dOk P A && prmB P A && decide (nth (prmV P A) 4 = 1)) = true then plO v k (nth (prmV P A) 0) (nth (prmV P A) 3) 5 2 else 0
def apD2 : List (List Int) := [[0, 1], [0, 2], [0, 3], [1, 2], [1, 3], [2, 3]]
def apD3 : List (List Int) := [[0, 1, 2], [0, 3, 6], [0, 4, 8], [0, 5, 7], [1, 3, 8], [1, 4, 7], [1, 5, 6], [2, 3, 7], [2, 4, 6], [2, 5, 8], [3, 4, 5], [6, 7, 8]]
def apD4 : List (List Int) := [[0, 1, 2, 3], [0, 4, 8, 12], [0, 5, 10, 15], [0, 6, 11, 13], [0, 7, 9, 14], [1, 4, 11, 14], [1, 5, 9, 13], [1, 6, 8, 15], [1, 7, 10, 12], [2, 4, 9, 15], [2, 5, 11, 12], [2, 6, 10, 14], [2, 7, 8, 13], [3, 4, 10, 13], [3, 5, 8, 14], [3, 6, 9, 12], [3, 7, 11, 15], [4, 5, 6, 7], [8, 9, 10, 11], [12, 13, 14, 15]]
def apD5 : List (List Int) := [[0, 1, 2, 3, 4], [0, 5, 10, 15, 20], [0, 6, 12, 18, 24], [0, 7, 14, 16, 23], [0, 8, 11, 19, 22], [0, 9, 13, 17, 21], [1, 5, 14, 18, 22], [1, 6, 11, 16, 21], [1, 7, 13, 19, 20], [1, 8, 10, 17, 24], [1, 9, 12, 15, 23], [2, 5, 13, 16, 24], [2, 6, 10, 19, 23], [2, 7, 12, 17, 22], [2, 8, 14, 15, 21], [2, 9, 11, 18, 20], [3, 5, 12, 19, 21], [3, 6, 14, 17, 20], [3, 7, 11, 15, 24], [3, 8, 13, 18, 23], [3, 9, 10, 16, 22], [4, 5, 11, 17, 23], [4, 6, 13, 15, 22], [4, 7, 10, 18, 21], [4, 8, 12, 16, 20], [4, 9, 14, 19, 24], [5, 6, 7, 8, 9], [10, 11, 12, 13, 14], [15, 16, 17, 18, 19], [20, 21, 22, 23, 24]]
def apD : Nat → List (List Int)
  | 2 => apD2
  | 3 => apD3
  | 4 => apD4
  | _ => apD5
set_option maxRecDepth 1000000
theorem ap_lit : ∀ q ∈ ([2, 3, 4, 5] : List Nat), mkOk q = true ∧ apB q = apD q := by decide +kernel
/-- the classes are a resolution -/
def clsT (A C : List (List Int)) : List (List (List Int)) := C.map fun c => c.map fun k => xat A k.toNat
end Go.Proofs.YtljemlfocajhnaaGreat
end

section
/- Memory: slices whose elements have three cells, in a block of their own. -/
namespace Go.Proofs.YtljemlfocajhnaaGreat
set_option linter.unusedSimpArgs false
set_option linter.unusedVariables false
open Go.RowKit

/-- n elements of three cells each stand at the front of the block g -/
def R3 (v : Value) (g n : Nat) (cs : List Value) : Prop := ∃ cap, v = .slice (some ⟨g, 0, none⟩) n cap ∧ cs.length = 3 * cap ∧ n ≤ cap ∧ cap ≤ maxLen
section
variable {P : Program}
end
end Go.Proofs.YtljemlfocajhnaaGreat
end

section
/- Walk: the points of the projective plane, of the program. -/
namespace Go.Proofs.YtljemlfocajhnaaGreat
set_option linter.unusedSimpArgs false
set_option linter.unusedVariables false
open Go.RowKit
attribute [local go_sem ↓] Go.wp_at_zero Go.wp_at_succ

section
variable {P : Program} {ops : Array Oper} {rest : List Oper} {o : Oper} {a : Act} {Q : Exit → Act → World → Prop}
end
section
variable {ops : Array Oper} {rest : List Oper} {o : Oper} {a : Act} {Q : Exit → Act → World → Prop}
end
def ppA (z : Nat) : List (List Int) := [0, 0, 1] :: (List.range z).map fun z : Nat => [0, 1, (z : Int)]
def ppB (q y : Nat) : List (List Int) := ppA q ++ (List.range y).flatMap fun y : Nat => (List.range q).map fun z : Nat => [1, (y : Int), (z : Int)]
def ppC (q y z : Nat) : List (List Int) := ppB q y ++ (List.range z).map fun z : Nat => [1, (y : Int), (z : Int)]
theorem ppA_succ (z : Nat) : ppA (z + 1) = ppA z ++ [[0, 1, (z : Int)]] := by rw [ppA, List.range_succ, List.map_append]; rfl
theorem ppC_succ (q y z : Nat) : ppC q y (z + 1) = ppC q y z ++ [[1, (y : Int), (z : Int)]] := by rw [ppC, List.range_succ, List.map_append, ← List.append_assoc]; rfl
theorem ppB_succ (q y : Nat) : ppB q (y + 1) = ppC q y q := by rw [ppB, List.range_succ, List.flatMap_append, ← List.append_assoc]; simp [ppC, ppB]
theorem ppB_0 (q : Nat) : ppB q 0 = ppA q := by simp [ppB]
theorem ppC_0 (q y : Nat) : ppC q y 0 = ppB q y := by simp [ppC]
theorem ppA_len (z : Nat) : (ppA z).length = z + 1 := by simp [ppA]
theorem ppB_len (q y : Nat) : (ppB q y).length = q + 1 + y * q := by
  induction y with
  | zero => rw [ppB_0, ppA_len]; omega
  | succ y ih => rw [ppB_succ, ppC, List.length_append, ih, Nat.add_mul]; simp; omega
theorem ppC_len (q y z : Nat) : (ppC q y z).length = q + 1 + y * q + z := by rw [ppC, List.length_append, ppB_len]; simp
end Go.Proofs.YtljemlfocajhnaaGreat
end

section
/- Plain: projective planes of fields (by kernel check for the orders 2 to 5). -/
namespace Go.Proofs.YtljemlfocajhnaaGreat
set_option linter.unusedSimpArgs false
set_option linter.unusedVariables false

/-- the sum of products of two points -/
def dtS (p : Int) (D : Nat) (fs u v : List Int) : Nat → Int
  | 0 => 0
  | i + 1 => fsum p D (dtS p D fs u v i) (fmul p D fs (nth u i) (nth v i)) 1
/-- the points on the line u -/
def pjR (p : Int) (D : Nat) (fs : List Int) (X : List (List Int)) (u : List Int) : Nat → List Int
  | 0 => []
  | k + 1 => if dtS p D fs u (xat X k) 3 = 0 then pjR p D fs X u k ++ [(k : Int)] else pjR p D fs X u k
def pjQ (p : Int) (D : Nat) (fs : List Int) (X : List (List Int)) : Nat → List (List Int)
  | 0 => []
  | j + 1 => pjQ p D fs X j ++ [pjR p D fs X (xat X j) X.length]
def pjU (q : Nat) : List (List Int) := pjQ (mkfP q) (mkfD q).toNat (mkfL q) (ppB q q) (ppB q q).length
def pjB (q : Nat) : List (List Int) := srtL (pjU q)
def pjD2 : List (List Int) := [[0, 1, 2], [0, 3, 4], [0, 5, 6], [1, 3, 5], [1, 4, 6], [2, 3, 6], [2, 4, 5]]
def pjD3 : List (List Int) := [[0, 1, 2, 3], [0, 4, 5, 6], [0, 7, 8, 9], [0, 10, 11, 12], [1, 4, 7, 10], [1, 5, 8, 11], [1, 6, 9, 12], [2, 4, 8, 12], [2, 5, 9, 10], [2, 6, 7, 11], [3, 4, 9, 11], [3, 5, 7, 12], [3, 6, 8, 10]]
def pjD4 : List (List Int) := [[0, 1, 2, 3, 4], [0, 5, 6, 7, 8], [0, 9, 10, 11, 12], [0, 13, 14, 15, 16], [0, 17, 18, 19, 20], [1, 5, 9, 13, 17], [1, 6, 10, 14, 18], [1, 7, 11, 15, 19], [1, 8, 12, 16, 20], [2, 5, 10, 15, 20], [2, 6, 9, 16, 19], [2, 7, 12, 13, 18], [2, 8, 11, 14, 17], [3, 5, 11, 16, 18], [3, 6, 12, 15, 17], [3, 7, 9, 14, 20], [3, 8, 10, 13, 19], [4, 5, 12, 14, 19], [4, 6, 11, 13, 20], [4, 7, 10, 16, 17], [4, 8, 9, 15, 18]]
def pjD5 : List (List Int) := [[0, 1, 2, 3, 4, 5], [0, 6, 7, 8, 9, 10], [0, 11, 12, 13, 14, 15], [0, 16, 17, 18, 19, 20], [0, 21, 22, 23, 24, 25], [0, 26, 27, 28, 29, 30], [1, 6, 11, 16, 21, 26], [1, 7, 12, 17, 22, 27], [1, 8, 13, 18, 23, 28], [1, 9, 14, 19, 24, 29], [1, 10, 15, 20, 25, 30], [2, 6, 12, 18, 24, 30], [2, 7, 13, 19, 25, 26], [2, 8, 14, 20, 21, 27], [2, 9, 15, 16, 22, 28], [2, 10, 11, 17, 23, 29], [3, 6, 13, 20, 22, 29], [3, 7, 14, 16, 23, 30], [3, 8, 15, 17, 24, 26], [3, 9, 11, 18, 25, 27], [3, 10, 12, 19, 21, 28], [4, 6, 14, 17, 25, 28], [4, 7, 15, 18, 21, 29], [4, 8, 11, 19, 22, 30], [4, 9, 12, 20, 23, 26], [4, 10, 13, 16, 24, 27], [5, 6, 15, 19, 23, 27], [5, 7, 11, 20, 24, 28], [5, 8, 12, 16, 25, 29], [5, 9, 13, 17, 21, 30], [5, 10, 14, 18, 22, 26]]
def pjD : Nat → List (List Int)
  | 2 => pjD2
  | 3 => pjD3
  | 4 => pjD4
  | _ => pjD5
set_option maxRecDepth 1000000
theorem pj_lit : ∀ q ∈ ([2, 3, 4, 5] : List Nat), mkOk q = true ∧ pjB q = pjD q := by decide +kernel
end Go.Proofs.YtljemlfocajhnaaGreat
end

section
/- Plain: the planes that the reference draws. -/
namespace Go.Proofs.YtljemlfocajhnaaGreat
set_option linter.unusedSimpArgs false
set_option linter.unusedVariables false

def rpA (q c : Nat) : List (List Int) := (List.range c).map (lnV q)
def rpB (q m : Nat) : List (List Int) := rpA q q ++ (List.range m).flatMap fun m => (List.range q).map (lnS q m)
def rpC (q m b : Nat) : List (List Int) := rpB q m ++ (List.range b).map (lnS q m)
theorem rpA_succ (q c : Nat) : rpA q (c + 1) = rpA q c ++ [lnV q c] := by rw [rpA, List.range_succ, List.map_append]; rfl
theorem rpB_0 (q : Nat) : rpB q 0 = rpA q q := by simp [rpB]
theorem rpC_0 (q m : Nat) : rpC q m 0 = rpB q m := by simp [rpC]
theorem rpC_succ (q m b : Nat) : rpC q m (b + 1) = rpC q m b ++ [lnS q m b] := by rw [rpC, List.range_succ, List.map_append, ← List.append_assoc]; rfl
theorem rpB_succ (q m : Nat) : rpB q (m + 1) = rpC q m q := by rw [rpB, List.range_succ, List.flatMap_append, ← List.append_assoc]; simp [rpC, rpB]
theorem rpA_len (q c : Nat) : (rpA q c).length = c := by simp [rpA]
theorem rpB_len (q m : Nat) : (rpB q m).length = q + m * q := by
  induction m with
  | zero => rw [rpB_0, rpA_len]; omega
  | succ m ih => rw [rpB_succ, rpC, List.length_append, ih, Nat.add_mul]; simp; omega
theorem rpC_len (q m b : Nat) : (rpC q m b).length = q + m * q + b := by rw [rpC, List.length_append, rpB_len]; simp
def lvX (q m x : Nat) : List Int := (List.range x).map fun x : Nat => (q : Int) * m + x
def lsX (q m b x : Nat) : List Int := (List.range x).map fun x : Nat => (q : Int) * x + fsum (mkfP q) (mkfD q).toNat (fmul (mkfP q) (mkfD q).toNat (mkfL q) m x) b 1
theorem lvX_succ (q m x : Nat) : lvX q m (x + 1) = lvX q m x ++ [(q : Int) * m + x] := by rw [lvX, lvX, List.range_succ, List.map_append]; rfl
theorem lsX_succ (q m b x : Nat) : lsX q m b (x + 1) = lsX q m b x ++ [(q : Int) * x + fsum (mkfP q) (mkfD q).toNat (fmul (mkfP q) (mkfD q).toNat (mkfL q) m x) b 1] := by rw [lsX, lsX, List.range_succ, List.map_append]; rfl
/-- the entries of a point -/
def P3X (q : Nat) (X : List (List Int)) : Prop := ∀ k < X.length, (xat X k).length = 3 ∧ ∀ i < 3, 0 ≤ nth (xat X k) i ∧ nth (xat X k) i < q
theorem pp_3X (q : Nat) (h : 2 ≤ q) : P3X q (ppB q q) := by
  have hall : ∀ u ∈ ppB q q, ∃ a b c : Int, u = [a, b, c] ∧ (0 ≤ a ∧ a < q) ∧ (0 ≤ b ∧ b < q) ∧ (0 ≤ c ∧ c < q) := by
    intro u hu
    simp only [ppB, ppA, List.mem_append, List.mem_cons, List.mem_map, List.mem_flatMap, List.mem_range] at hu
    rcases hu with (rfl | ⟨z, hz, rfl⟩) | ⟨y, hy, z, hz, rfl⟩
    · exact ⟨_, _, _, rfl, by omega, by omega, by omega⟩
    · exact ⟨_, _, _, rfl, by omega, by omega, by omega⟩
    · exact ⟨_, _, _, rfl, by omega, by omega, by omega⟩
  intro k hk
  have he : xat (ppB q q) k = (ppB q q)[k] := by simp [xat, hk]
  obtain ⟨a, b, c, e, ha, hb, hc⟩ := hall _ (List.getElem_mem hk)
  rw [he, e]
  refine ⟨rfl, fun i hi => ?_⟩
  obtain rfl | rfl | rfl : i = 0 ∨ i = 1 ∨ i = 2 := by omega
  · exact ha
  · exact hb
  · exact hc
theorem dtS_limX {p : Int} {D : Nat} {fs : List Int} {n : Nat} (hp : p ^ D = (n : Int)) (hf : FV p D fs) (hn : 0 < n) (u v : List Int) (i : Nat) : 0 ≤ dtS p D fs u v i ∧ dtS p D fs u v i < n := by
  cases i with
  | zero => exact ⟨Int.le_refl _, by simp only [dtS]; omega⟩
  | succ i => have := fsum_el (D := D) (show 0 < p by have := hf.p2; omega) (dtS p D fs u v i) (fmul p D fs (nth u i) (nth v i)) 1; rw [dtS, ← hp]; exact this
theorem pjR_lenX (p : Int) (D : Nat) (fs : List Int) (X : List (List Int)) (u : List Int) (k : Nat) : (pjR p D fs X u k).length ≤ k := by
  induction k with
  | zero => simp [pjR]
  | succ k ih =>
    rw [pjR]
    split
    · simp; omega
    · omega
theorem pjQ_lenX (p : Int) (D : Nat) (fs : List Int) (X : List (List Int)) (j : Nat) : (pjQ p D fs X j).length = j := by
  induction j with
  | zero => rfl
  | succ j ih => rw [pjQ, List.length_append, ih]; rfl
set_option maxRecDepth 1000000
theorem rp_lit : ∀ q ∈ ([2, 3, 4, 5] : List Nat), srtL (rpB q q) = apD q ∧ dOk (q * q : Nat) (apD q) = true ∧ (apD q).length = q * q + q := by decide +kernel
theorem rj_lit : ∀ q ∈ ([2, 3, 4, 5] : List Nat), dOk (q * q + q + 1 : Nat) (pjD q) = true ∧ (pjD q).length = q * q + q + 1 := by decide +kernel
theorem rp_ok {q : Nat} (h2 : 2 ≤ q) (h5 : q ≤ 5) : mkOk q = true ∧ dOk (q * q : Nat) (srtL (rpB q q)) = true ∧ (srtL (rpB q q)).length = q * q + q := by
  have hq : q ∈ ([2, 3, 4, 5] : List Nat) := by simp; omega
  obtain ⟨e, a, b⟩ := rp_lit q hq
  rw [e]
  exact ⟨(ap_lit q hq).1, a, b⟩
theorem rj_ok {q : Nat} (h2 : 2 ≤ q) (h5 : q ≤ 5) : dOk (q * q + q + 1 : Nat) (pjB q) = true ∧ (pjB q).length = q * q + q + 1 := by
  have hq : q ∈ ([2, 3, 4, 5] : List Nat) := by simp; omega
  rw [(pj_lit q hq).2]
  exact rj_lit q hq
end Go.Proofs.YtljemlfocajhnaaGreat
end

section
/- Latin squares as lists of lists, their isotopes. In plain terms. -/
namespace Go.Proofs.YtljemlfocajhnaaGreat
set_option linter.unusedSimpArgs false
set_option linter.unusedVariables false
/-- the entry of a place -/
def at2 (A : List (List Int)) (x y : Nat) : Int := nth (xat A x) y
/-- a square of n rows and columns -/
structure Sqr (n : Nat) (A : List (List Int)) : Prop where
  len : A.length = n
  row : ∀ x, x < n → (xat A x).length = n
/-- its entries are below n -/
structure Sq0 (n : Nat) (A : List (List Int)) : Prop extends Sqr n A where
  el : ∀ x y, x < n → y < n → 0 ≤ at2 A x y ∧ at2 A x y < n
def colL (A : List (List Int)) (y : Nat) : List Int := A.map fun r => nth r y
theorem colL_len (A : List (List Int)) (y : Nat) : (colL A y).length = A.length := by simp [colL]
theorem nth_colL {A : List (List Int)} {y x : Nat} (h : x < A.length) : nth (colL A y) x = at2 A x y := by simp [colL, nth, at2, xat, h]
/-- a Latin square of at most 10 rows -/
structure Lat (A : List (List Int)) : Prop where
  pos : 1 ≤ A.length
  le : A.length ≤ 10
  len : ∀ x, x < A.length → (xat A x).length = A.length
  row : ∀ x, x < A.length → IsP (xat A x)
  col : ∀ y, y < A.length → IsP (colL A y)
theorem sq_ext {n : Nat} {A B : List (List Int)} (hA : Sqr n A) (hB : Sqr n B) (h : ∀ x y, x < n → y < n → at2 A x y = at2 B x y) : A = B := by
  apply List.ext_getElem (hA.len.trans hB.len.symm)
  intro x h1 h2
  have hx : x < n := by rw [← hA.len]; exact h1
  have e1 : A[x] = xat A x := by simp [xat, h1]
  have e2 : B[x] = xat B x := by simp [xat, h2]
  rw [e1, e2]
  refine nth_ext (by rw [hA.row x hx, hB.row x hx]) fun y hy => h x y hx (by rw [← hA.row x hx]; exact hy)
theorem sq_ext2 {n : Nat} {A B : List (List Int)} {r c : List Int} (hr : IsP r) (hc : IsP c) (hrl : r.length = n) (hcl : c.length = n) (hA : Sqr n A) (hB : Sqr n B)
    (h : ∀ x y, x < n → y < n → at2 A (pf r x) (pf c y) = at2 B (pf r x) (pf c y)) : A = B := by
  refine sq_ext hA hB fun x y hx hy => ?_
  obtain ⟨x', hx', rfl⟩ := hr.bij.onto (y := x) (by omega)
  obtain ⟨y', hy', rfl⟩ := hc.bij.onto (y := y) (by omega)
  exact h x' y' (by omega) (by omega)
theorem at2_sqF {n : Nat} {f : Nat → Nat → Int} {x y : Nat} (hx : x < n) (hy : y < n) : at2 (sqF n f) x y = f x y := by
  unfold at2; rw [xat_sqF hx]; simp [tab, nth, hy]
theorem sqF_sqr (n : Nat) (f : Nat → Nat → Int) : Sqr n (sqF n f) := ⟨sqF_len n f, fun x hx => by rw [xat_sqF hx, tab_len]⟩
/-- one entry anew -/
def putS (S : List (List Int)) (x y : Nat) (v : Int) : List (List Int) := S.set x ((xat S x).set y v)
theorem xat_putS {n : Nat} {S : List (List Int)} (h : Sqr n S) {x : Nat} (hx : x < n) (y : Nat) (v : Int) (t : Nat) : xat (putS S x y v) t = if x = t then (xat S x).set y v else xat S t := by
  unfold putS xat
  rw [List.getD_eq_getElem?_getD, List.getElem?_set]
  split
  · rename_i e; subst e; rw [if_pos (by rw [h.len]; exact hx)]; rfl
  · simp
theorem putS_sqr {n : Nat} {S : List (List Int)} (h : Sqr n S) {x : Nat} (hx : x < n) (y : Nat) (v : Int) : Sqr n (putS S x y v) := by
  refine ⟨by unfold putS; rw [List.length_set]; exact h.len, fun t ht => ?_⟩
  rw [xat_putS h hx]
  split
  · rw [List.length_set]; exact h.row x hx
  · exact h.row t ht
theorem at2_putS {n : Nat} {S : List (List Int)} (h : Sqr n S) {x y : Nat} (hx : x < n) (hy : y < n) (v : Int) (t u : Nat) : at2 (putS S x y v) t u = if x = t ∧ y = u then v else at2 S t u := by
  unfold at2
  rw [xat_putS h hx]
  by_cases e : x = t
  · subst e
    rw [if_pos rfl, nth_set (by rw [h.row x hx]; exact hy)]
    by_cases e2 : y = u
    · rw [if_pos e2, if_pos ⟨rfl, e2⟩]
    · rw [if_neg e2, if_neg fun h => e2 h.2]
  · rw [if_neg e, if_neg fun h => e h.1]
/-! ### isotopes -/
def isoL (A : List (List Int)) (r c s : List Int) : List (List Int) := sqF A.length fun x y => nth s (at2 A (pf (invL r) x) (pf (invL c) y)).toNat
theorem pf_invL {xs : List Int} (h : IsP xs) {j : Nat} (hj : j < xs.length) : pf (invL xs) (pf xs j) = j := by unfold pf; rw [show nth (invL xs) (nth xs j).toNat = j from nth_invL h hj]; rfl
theorem isoL_sqr (A : List (List Int)) (r c s : List Int) : Sqr A.length (isoL A r c s) := sqF_sqr _ _
theorem isoL_at {A : List (List Int)} {r c s : List Int} (hr : IsP r) (hc : IsP c) (hrl : r.length = A.length) (hcl : c.length = A.length) {x y : Nat} (hx : x < A.length) (hy : y < A.length) :
    at2 (isoL A r c s) (pf r x) (pf c y) = nth s (at2 A x y).toNat := by
  have h1 : pf r x < A.length := by rw [← hrl]; exact hr.pf_lt (by omega)
  have h2 : pf c y < A.length := by rw [← hcl]; exact hc.pf_lt (by omega)
  unfold isoL
  rw [at2_sqF h1 h2, pf_invL hr (by omega), pf_invL hc (by omega)]
/-- the isotope, made as far as place y of row x -/
structure IsoP (A : List (List Int)) (r c s : List Int) (x y : Nat) (S : List (List Int)) : Prop where
  sqr : Sqr A.length S
  at' : ∀ x' y', x' < A.length → y' < A.length → (x' < x ∨ x' = x ∧ y' < y) → at2 S (pf r x') (pf c y') = nth s (at2 A x' y').toNat
section
variable {A : List (List Int)} {r c s : List Int}
theorem IsoP.start : IsoP A r c s 0 0 (sqF A.length fun _ _ => 0) := ⟨sqF_sqr _ _, fun _ _ _ _ h => by omega⟩
theorem IsoP.step (hr : IsP r) (hc : IsP c) (hrl : r.length = A.length) (hcl : c.length = A.length) {x y : Nat} {S : List (List Int)} (h : IsoP A r c s x y S) (hx : x < A.length) (hy : y < A.length) :
    IsoP A r c s x (y + 1) (putS S (pf r x) (pf c y) (nth s (at2 A x y).toNat)) := by
  have h1 : pf r x < A.length := by rw [← hrl]; exact hr.pf_lt (by omega)
  have h2 : pf c y < A.length := by rw [← hcl]; exact hc.pf_lt (by omega)
  refine ⟨putS_sqr h.sqr h1 _ _, fun x' y' hx' hy' hl => ?_⟩
  rw [at2_putS h.sqr h1 h2]
  split
  · rename_i e
    rw [hr.bij.inj x x' (by omega) (by omega) e.1, hc.bij.inj y y' (by omega) (by omega) e.2]
  · rename_i e
    refine h.at' x' y' hx' hy' ?_
    rcases hl with hl | ⟨rfl, hl⟩
    · exact .inl hl
    · refine .inr ⟨rfl, ?_⟩
      by_cases e2 : y' = y
      · subst e2; exact absurd ⟨rfl, rfl⟩ e
      · omega
theorem IsoP.next {x : Nat} {S : List (List Int)} (h : IsoP A r c s x A.length S) : IsoP A r c s (x + 1) 0 S :=
  ⟨h.sqr, fun x' y' hx' hy' hl => h.at' x' y' hx' hy' (by omega)⟩
theorem IsoP.done (hr : IsP r) (hc : IsP c) (hrl : r.length = A.length) (hcl : c.length = A.length) {S : List (List Int)} (h : IsoP A r c s A.length 0 S) : S = isoL A r c s :=
  sq_ext2 hr hc hrl hcl h.sqr (isoL_sqr A r c s) fun x y hx hy => by
    rw [h.at' x y hx hy (.inl hx), isoL_at hr hc hrl hcl hx hy]
end
end Go.Proofs.YtljemlfocajhnaaGreat
end

section
/- Isotopes and conjugates of Latin squares, in plain terms. Conjugates of Latin squares as lists of lists. In plain terms. -/
namespace Go.Proofs.YtljemlfocajhnaaGreat
set_option linter.unusedSimpArgs false
set_option linter.unusedVariables false

structure Latin (n : Nat) (a : Nat → Nat → Nat) : Prop where
  row : ∀ x, x < n → Bij n (a x)
  col : ∀ y, y < n → Bij n fun x => a x y
def IsoOf (n : Nat) (a : Nat → Nat → Nat) (r c s : Nat → Nat) (b : Nat → Nat → Nat) : Prop := ∀ x y, x < n → y < n → b (r x) (c y) = s (a x y)
section
variable {n : Nat} {a b d : Nat → Nat → Nat} {r c s q : Nat → Nat}
theorem IsoOf.comp {r' c' s' : Nat → Nat} (hr : Bij n r) (hc : Bij n c) (h1 : IsoOf n a r c s b) (h2 : IsoOf n b r' c' s' d) : IsoOf n a (fun x => r' (r x)) (fun x => c' (c x)) (fun x => s' (s x)) d := fun x y hx hy => by
  show d (r' (r x)) (c' (c y)) = s' (s (a x y))
  rw [h2 _ _ (hr.lt x hx) (hc.lt y hy), h1 x y hx hy]
theorem IsoOf.back {ri ci si : Nat → Nat} (hl : Latin n a) (hr : Bij n r) (hc : Bij n c) (h1 : IsoOf n a r c s b) (h2 : IsoOf n b ri ci si d) (er : ∀ x, x < n → ri (r x) = x) (ec : ∀ x, x < n → ci (c x) = x) (es : ∀ x, x < n → si (s x) = x)
    {x y : Nat} (hx : x < n) (hy : y < n) : d x y = a x y := by
  have := h2 _ _ (hr.lt x hx) (hc.lt y hy)
  rw [er x hx, ec y hy, h1 x y hx hy, es _ ((hl.row x hx).lt y hy)] at this
  exact this
theorem IsoOf.latin (hl : Latin n a) (hr : Bij n r) (hc : Bij n c) (hs : Bij n s) (h : IsoOf n a r c s b) : Latin n b where
  row x hx := by
    obtain ⟨x', hx', rfl⟩ := hr.onto hx
    refine ⟨fun y hy => ?_, fun y z hy hz e => ?_⟩
    · obtain ⟨y', hy', rfl⟩ := hc.onto hy
      rw [h x' y' hx' hy']; exact hs.lt _ ((hl.row x' hx').lt y' hy')
    · obtain ⟨y', hy', rfl⟩ := hc.onto hy
      obtain ⟨z', hz', rfl⟩ := hc.onto hz
      rw [h x' y' hx' hy', h x' z' hx' hz'] at e
      rw [(hl.row x' hx').inj y' z' hy' hz' (hs.inj _ _ ((hl.row x' hx').lt y' hy') ((hl.row x' hx').lt z' hz') e)]
  col y hy := by
    obtain ⟨y', hy', rfl⟩ := hc.onto hy
    refine ⟨fun x hx => ?_, fun x z hx hz e => ?_⟩
    · obtain ⟨x', hx', rfl⟩ := hr.onto hx
      rw [h x' y' hx' hy']; exact hs.lt _ ((hl.row x' hx').lt y' hy')
    · obtain ⟨x', hx', rfl⟩ := hr.onto hx
      obtain ⟨z', hz', rfl⟩ := hr.onto hz
      rw [h x' y' hx' hy', h z' y' hz' hy'] at e
      rw [(hl.col y' hy').inj x' z' hx' hz' (hs.inj _ _ ((hl.row x' hx').lt y' hy') ((hl.row z' hz').lt y' hy') e)]
/-- the triple of a place -/
def tri (x y s : Nat) : Nat → Nat := fun i => if i = 0 then x else if i = 1 then y else s
def ConjOf (n : Nat) (a : Nat → Nat → Nat) (p : Nat → Nat) (b : Nat → Nat → Nat) : Prop := ∀ x y, x < n → y < n → b (tri x y (a x y) (p 0)) (tri x y (a x y) (p 1)) = tri x y (a x y) (p 2)
theorem tri_lt {x y s : Nat} (hx : x < n) (hy : y < n) (hs : s < n) (i : Nat) : tri x y s i < n := by
  unfold tri; split
  · exact hx
  · split
    · exact hy
    · exact hs
theorem ConjOf.comp {p q : Nat → Nat} (hl : Latin n a) (hq : Bij 3 q) (h1 : ConjOf n a p b) (h2 : ConjOf n b q d) : ConjOf n a (fun i => p (q i)) d := fun x y hx hy => by
  have hs := (hl.row x hx).lt y hy
  have h := h2 _ _ (tri_lt hx hy hs (p 0)) (tri_lt hx hy hs (p 1))
  rw [h1 x y hx hy] at h
  have e : ∀ i, i < 3 → tri (tri x y (a x y) (p 0)) (tri x y (a x y) (p 1)) (tri x y (a x y) (p 2)) i = tri x y (a x y) (p i) := fun i hi => by
    rcases i with _ | _ | _ | i
    · rfl
    · rfl
    · rfl
    · omega
  rw [e _ (hq.lt 0 (by omega)), e _ (hq.lt 1 (by omega)), e _ (hq.lt 2 (by omega))] at h
  exact h
end

section
variable {n : Nat} {a : Nat → Nat → Nat}
/-- two of the three numbers of a place tell it -/
theorem tri_inj (hl : Latin n a) {i j : Nat} (hi : i < 3) (hj : j < 3) (hij : i ≠ j) {x y x' y' : Nat} (hx : x < n) (hy : y < n) (hx' : x' < n) (hy' : y' < n)
    (e1 : tri x y (a x y) i = tri x' y' (a x' y') i) (e2 : tri x y (a x y) j = tri x' y' (a x' y') j) : x = x' ∧ y = y' := by
  have r : ∀ y y', y < n → y' < n → x = x' → a x y = a x' y' → y = y' := fun y y' hy hy' e h => by subst e; exact (hl.row x hx).inj y y' hy hy' h
  have c : y = y' → a x y = a x' y' → x = x' := fun e h => by subst e; exact (hl.col y hy).inj x x' hx hx' h
  rcases i with _ | _ | _ | i <;> rcases j with _ | _ | _ | j <;> simp [tri] at e1 e2 hij <;> first | omega | skip
  all_goals first
    | exact ⟨e1, r y y' hy hy' e1 e2⟩
    | exact ⟨c e1 e2, e1⟩
    | exact ⟨e2, r y y' hy hy' e2 e1⟩
    | exact ⟨c e2 e1, e2⟩
theorem tri_onto (hl : Latin n a) {i j : Nat} (hi : i < 3) (hj : j < 3) (hij : i ≠ j) {u v : Nat} (hu : u < n) (hv : v < n) :
    ∃ x y, x < n ∧ y < n ∧ tri x y (a x y) i = u ∧ tri x y (a x y) j = v := by
  rcases i with _ | _ | _ | i <;> rcases j with _ | _ | _ | j <;> first | omega | skip
  · exact ⟨u, v, hu, hv, rfl, rfl⟩
  · obtain ⟨y, hy, e⟩ := (hl.row u hu).onto hv
    exact ⟨u, y, hu, hy, rfl, e⟩
  · exact ⟨v, u, hv, hu, rfl, rfl⟩
  · obtain ⟨x, hx, e⟩ := (hl.col u hu).onto hv
    exact ⟨x, u, hx, hu, rfl, e⟩
  · obtain ⟨y, hy, e⟩ := (hl.row v hv).onto hu
    exact ⟨v, y, hv, hy, e, rfl⟩
  · obtain ⟨x, hx, e⟩ := (hl.col v hv).onto hu
    exact ⟨x, v, hx, hv, e, rfl⟩
end
def af (A : List (List Int)) (x y : Nat) : Nat := (at2 A x y).toNat
theorem Lat.latin {A : List (List Int)} (h : Lat A) : Latin A.length (af A) where
  row x hx := by
    have := (h.row x hx).bij
    rw [h.len x hx] at this
    exact this
  col y hy := by
    have := (h.col y hy).bij
    rw [colL_len] at this
    refine ⟨fun x hx => ?_, fun x z hx hz e => this.inj x z hx hz ?_⟩
    · have h2 := this.lt x hx
      unfold pf at h2; rw [nth_colL hx] at h2; exact h2
    · unfold pf; rw [nth_colL hx, nth_colL hz]; exact e
/-- number i of the place of a square -/
def trA (A : List (List Int)) (x y i : Nat) : Nat := tri x y (af A x y) i
structure ConR (A : List (List Int)) (p : List Int) (B : List (List Int)) : Prop where
  sqr : Sqr A.length B
  at' : ∀ x y, x < A.length → y < A.length → at2 B (trA A x y (pf p 0)) (trA A x y (pf p 1)) = trA A x y (pf p 2)
structure ConP (A : List (List Int)) (p : List Int) (x y : Nat) (B : List (List Int)) : Prop where
  sqr : Sqr A.length B
  at' : ∀ x' y', x' < A.length → y' < A.length → (x' < x ∨ x' = x ∧ y' < y) → at2 B (trA A x' y' (pf p 0)) (trA A x' y' (pf p 1)) = trA A x' y' (pf p 2)
section
variable {A B C D : List (List Int)} {p q : List Int}
theorem trA_lt (h : Lat A) {x y : Nat} (hx : x < A.length) (hy : y < A.length) (i : Nat) : trA A x y i < A.length := tri_lt hx hy ((h.latin.row x hx).lt y hy) i
theorem p3_lt (hp : IsP p) (h3 : p.length = 3) {i : Nat} (hi : i < 3) : pf p i < 3 := by have := hp.pf_lt (j := i) (by omega); omega
theorem p3_ne (hp : IsP p) (h3 : p.length = 3) {i j : Nat} (hi : i < 3) (hj : j < 3) (h : i ≠ j) : pf p i ≠ pf p j := fun e => h (hp.bij.inj i j (by omega) (by omega) e)
theorem ConP.start : ConP A p 0 0 (sqF A.length fun _ _ => 0) := ⟨sqF_sqr _ _, fun _ _ _ _ h => by omega⟩
theorem ConP.step (hA : Lat A) (hp : IsP p) (h3 : p.length = 3) {x y : Nat} {S : List (List Int)} (h : ConP A p x y S) (hx : x < A.length) (hy : y < A.length) :
    ConP A p x (y + 1) (putS S (trA A x y (pf p 0)) (trA A x y (pf p 1)) (trA A x y (pf p 2))) := by
  have h1 := trA_lt hA hx hy (pf p 0)
  have h2 := trA_lt hA hx hy (pf p 1)
  refine ⟨putS_sqr h.sqr h1 _ _, fun x' y' hx' hy' hl => ?_⟩
  rw [at2_putS h.sqr h1 h2]
  split
  · rename_i e
    obtain ⟨rfl, rfl⟩ := tri_inj hA.latin (p3_lt hp h3 (by omega)) (p3_lt hp h3 (by omega)) (p3_ne hp h3 (i := 0) (j := 1) (by omega) (by omega) (by omega)) hx hy hx' hy' e.1 e.2
    rfl
  · rename_i e
    refine h.at' x' y' hx' hy' ?_
    rcases hl with hl | ⟨rfl, hl⟩
    · exact .inl hl
    · refine .inr ⟨rfl, ?_⟩
      by_cases e2 : y' = y
      · subst e2; exact absurd ⟨rfl, rfl⟩ e
      · omega
theorem ConP.next {x : Nat} {S : List (List Int)} (h : ConP A p x A.length S) : ConP A p (x + 1) 0 S :=
  ⟨h.sqr, fun x' y' hx' hy' hl => h.at' x' y' hx' hy' (by omega)⟩
theorem ConP.done {S : List (List Int)} (h : ConP A p A.length 0 S) : ConR A p S := ⟨h.sqr, fun x y hx hy => h.at' x y hx hy (.inl hx)⟩
theorem ConR.el (hA : Lat A) (hp : IsP p) (h3 : p.length = 3) (h : ConR A p B) : Sq0 A.length B := by
  refine ⟨h.sqr, fun u v hu hv => ?_⟩
  obtain ⟨x, y, hx, hy, rfl, rfl⟩ := tri_onto hA.latin (p3_lt hp h3 (i := 0) (by omega)) (p3_lt hp h3 (i := 1) (by omega)) (p3_ne hp h3 (by omega) (by omega) (by omega)) hu hv
  have e1 := h.at' x y hx hy
  have e2 := trA_lt hA hx hy (pf p 2)
  unfold trA at e1 e2
  rw [e1]; omega
/-- conjugates are Latin squares -/
theorem ConR.lat (hA : Lat A) (hp : IsP p) (h3 : p.length = 3) (h : ConR A p B) : Lat B := by
  have h0 := h.el hA hp h3
  have hb := h.sqr.len
  have on := fun {u v : Nat} (hu : u < A.length) (hv : v < A.length) => tri_onto hA.latin (p3_lt hp h3 (i := 0) (by omega)) (p3_lt hp h3 (i := 1) (by omega)) (p3_ne hp h3 (by omega) (by omega) (by omega)) hu hv
  refine ⟨by rw [hb]; exact hA.pos, by rw [hb]; exact hA.le, fun x hx => by rw [hb] at hx ⊢; exact h0.row x hx, fun u hu => ?_, fun v hv => ?_⟩
  · rw [hb] at hu
    refine ⟨fun v hv => ?_, fun v v' hv hv' e => ?_⟩
    · rw [h0.row u hu] at hv ⊢; exact h0.el u v hu hv
    · rw [h0.row u hu] at hv hv'
      obtain ⟨x, y, hx, hy, e1, e2⟩ := on hu hv
      obtain ⟨x', y', hx', hy', e1', e2'⟩ := on hu hv'
      have f1 := h.at' x y hx hy
      have f2 := h.at' x' y' hx' hy'
      unfold trA at f1 f2
      rw [e1, e2] at f1
      rw [e1', e2'] at f2
      have e' : at2 B u v = at2 B u v' := e
      rw [f1, f2] at e'
      obtain ⟨rfl, rfl⟩ := tri_inj hA.latin (p3_lt hp h3 (by omega)) (p3_lt hp h3 (by omega)) (p3_ne hp h3 (i := 0) (j := 2) (by omega) (by omega) (by omega)) hx hy hx' hy' (e1.trans e1'.symm) (by omega)
      rw [← e2, ← e2']
  · rw [hb] at hv
    refine ⟨fun u hu => ?_, fun u u' hu hu' e => ?_⟩
    · rw [colL_len, hb] at hu ⊢; rw [nth_colL (by rw [hb]; exact hu)]; exact h0.el u v hu hv
    · rw [colL_len, hb] at hu hu'
      rw [nth_colL (by rw [hb]; exact hu), nth_colL (by rw [hb]; exact hu')] at e
      obtain ⟨x, y, hx, hy, e1, e2⟩ := on hu hv
      obtain ⟨x', y', hx', hy', e1', e2'⟩ := on hu' hv
      have f1 := h.at' x y hx hy
      have f2 := h.at' x' y' hx' hy'
      unfold trA at f1 f2
      rw [e1, e2] at f1
      rw [e1', e2'] at f2
      rw [f1, f2] at e
      obtain ⟨rfl, rfl⟩ := tri_inj hA.latin (p3_lt hp h3 (by omega)) (p3_lt hp h3 (by omega)) (p3_ne hp h3 (i := 1) (j := 2) (by omega) (by omega) (by omega)) hx hy hx' hy' (e2.trans e2'.symm) (by omega)
      rw [← e1, ← e1']
/-- conjugates of conjugates -/
theorem ConR.comp (hA : Lat A) (hp : IsP p) (hq : IsP q) (h3 : p.length = 3) (hq3 : q.length = 3) (h1 : ConR A p B) (h2 : ConR B q C) : ConR A (cmpL q p) C := by
  have hb := h1.sqr.len
  have hl := hA.latin
  refine ⟨by rw [← hb]; exact h2.sqr, fun x y hx hy => ?_⟩
  have c1 : ConjOf A.length (af A) (pf p) (af B) := fun x y hx hy => by
    have := h1.at' x y hx hy
    show (at2 B (trA A x y (pf p 0)) (trA A x y (pf p 1))).toNat = trA A x y (pf p 2)
    rw [this]; simp
  have c2 : ConjOf A.length (af B) (pf q) (af C) := fun x y hx hy => by
    have := h2.at' x y (by omega) (by omega)
    show (at2 C (trA B x y (pf q 0)) (trA B x y (pf q 1))).toNat = trA B x y (pf q 2)
    rw [this]; simp
  have hq' : Bij 3 (pf q) := by have := hq.bij; rwa [hq3] at this
  have c3 := ConjOf.comp hl hq' c1 c2 x y hx hy
  rw [pf_cmpL (by omega), pf_cmpL (by omega), pf_cmpL (by omega)]
  have hz := h2.el (h1.lat hA hp h3) hq hq3
  have z := hz.el (trA A x y (pf p (pf q 0))) (trA A x y (pf p (pf q 1))) (by rw [hb]; exact trA_lt hA hx hy _) (by rw [hb]; exact trA_lt hA hx hy _)
  have e : (af C (trA A x y (pf p (pf q 0))) (trA A x y (pf p (pf q 1))) : Int) = trA A x y (pf p (pf q 2)) := by
    unfold trA; exact congrArg Int.ofNat c3
  rw [← e]; unfold af; omega
end

end Go.Proofs.YtljemlfocajhnaaGreat
end

section
/- Orthogonal squares as lists of lists, in plain terms. -/
namespace Go.Proofs.YtljemlfocajhnaaGreat
set_option linter.unusedSimpArgs false
set_option linter.unusedVariables false
/-- every pair of symbols once -/
def Ort (n : Nat) (A B : List (List Int)) : Prop := ∀ x y x' y', x < n → y < n → x' < n → y' < n → at2 A x y = at2 A x' y' → at2 B x y = at2 B x' y' → x = x' ∧ y = y'
theorem Ort.symm {n : Nat} {A B : List (List Int)} (h : Ort n A B) : Ort n B A := fun x y x' y' hx hy hx' hy' e1 e2 => h x y x' y' hx hy hx' hy' e2 e1
open Classical in
noncomputable def orB (A B : List (List Int)) : Bool := decide (A.length = B.length ∧ Ort A.length A B)
theorem orB_t {A B : List (List Int)} (h : orB A B = true) : A.length = B.length ∧ Ort A.length A B := by simpa [orB] using h
/-- places ahead of place y of row x -/
def Bef (n x y x' y' : Nat) : Prop := x' < n ∧ y' < n ∧ (x' < x ∨ x' = x ∧ y' < y)
/-- the numbers that are marked are those of the places ahead, each once -/
structure SnI (n N : Nat) (f : Nat → Nat → Nat) (x y : Nat) (s : List Bool) : Prop where
  len : s.length = N
  mem : ∀ v, v < N → (bat s v = true ↔ ∃ x' y', Bef n x y x' y' ∧ f x' y' = v)
  inj : ∀ x1 y1 x2 y2, Bef n x y x1 y1 → Bef n x y x2 y2 → f x1 y1 = f x2 y2 → x1 = x2 ∧ y1 = y2
section
variable {n N : Nat} {f : Nat → Nat → Nat} {x y : Nat} {s : List Bool}
theorem SnI.start : SnI n N f 0 0 (List.replicate N false) :=
  ⟨by simp, fun v hv => by
    rw [bat_rep]
    exact ⟨fun h => (by cases h), fun ⟨x', y', h, _⟩ => by unfold Bef at h; omega⟩, fun _ _ _ _ h => by unfold Bef at h; omega⟩
theorem SnI.step (h : SnI n N f x y s) (hx : x < n) (hy : y < n) (hf : f x y < N) (hb : bat s (f x y) = false) : SnI n N f x (y + 1) (s.set (f x y) true) := by
  have bef : ∀ {x' y'}, Bef n x (y + 1) x' y' → Bef n x y x' y' ∨ (x' = x ∧ y' = y) := fun {x' y'} hh => by unfold Bef at hh ⊢; omega
  have feb : ∀ {x' y'}, Bef n x y x' y' → Bef n x (y + 1) x' y' := fun {x' y'} hh => by unfold Bef at hh ⊢; omega
  have nw : ∀ {x' y'}, Bef n x y x' y' → f x' y' ≠ f x y := fun {x' y'} hh e => by
    have := (h.mem _ hf).2 ⟨x', y', hh, e⟩
    rw [hb] at this; cases this
  refine ⟨by rw [List.length_set]; exact h.len, fun v hv => ?_, fun x1 y1 x2 y2 h1 h2 e => ?_⟩
  · rw [bat_set (by rw [h.len]; exact hf)]
    by_cases e : f x y = v
    · rw [if_pos e]; exact ⟨fun _ => ⟨x, y, by unfold Bef; omega, e⟩, fun _ => rfl⟩
    · rw [if_neg e, h.mem v hv]
      constructor
      · rintro ⟨x', y', h1, h2⟩; exact ⟨x', y', feb h1, h2⟩
      · rintro ⟨x', y', h1, h2⟩
        rcases bef h1 with h3 | ⟨rfl, rfl⟩
        · exact ⟨x', y', h3, h2⟩
        · exact absurd h2 e
  · rcases bef h1 with h1 | ⟨rfl, rfl⟩
    · rcases bef h2 with h2 | ⟨rfl, rfl⟩
      · exact h.inj x1 y1 x2 y2 h1 h2 e
      · exact absurd e (nw h1)
    · rcases bef h2 with h2 | ⟨rfl, rfl⟩
      · exact absurd e.symm (nw h2)
      · exact ⟨rfl, rfl⟩
theorem SnI.next (h : SnI n N f x n s) : SnI n N f (x + 1) 0 s := by
  have e : ∀ x' y', Bef n (x + 1) 0 x' y' ↔ Bef n x n x' y' := fun x' y' => by unfold Bef; omega
  refine ⟨h.len, fun v hv => ?_, fun x1 y1 x2 y2 h1 h2 => h.inj x1 y1 x2 y2 ((e _ _).1 h1) ((e _ _).1 h2)⟩
  rw [h.mem v hv]
  constructor
  · rintro ⟨x', y', h1, h2⟩; exact ⟨x', y', (e _ _).2 h1, h2⟩
  · rintro ⟨x', y', h1, h2⟩; exact ⟨x', y', (e _ _).1 h1, h2⟩
theorem SnI.done (h : SnI n N f n 0 s) : ∀ x y x' y', x < n → y < n → x' < n → y' < n → f x y = f x' y' → x = x' ∧ y = y' := fun x y x' y' hx hy hx' hy' e =>
  h.inj x y x' y' ⟨hx, hy, .inl hx⟩ ⟨hx', hy', .inl hx'⟩ e
end
/-- both symbols of a place in one number -/
def ovF (n : Nat) (A B : List (List Int)) (x y : Nat) : Nat := n * af A x y + af B x y
section
variable {n : Nat} {A B : List (List Int)}
theorem af_eq (h : Sq0 n A) {x y : Nat} (hx : x < n) (hy : y < n) : at2 A x y = (af A x y : Nat) ∧ af A x y < n := by
  have := h.el x y hx hy; unfold af; omega
theorem ovF_inj (hA : Sq0 n A) (hB : Sq0 n B) {x y x' y' : Nat} (hx : x < n) (hy : y < n) (hx' : x' < n) (hy' : y' < n) : ovF n A B x y = ovF n A B x' y' ↔ at2 A x y = at2 A x' y' ∧ at2 B x y = at2 B x' y' := by
  have a := af_eq hA hx hy
  have a' := af_eq hA hx' hy'
  have b := af_eq hB hx hy
  have b' := af_eq hB hx' hy'
  rw [a.1, a'.1, b.1, b'.1]
  unfold ovF
  generalize af A x y = p at *
  generalize af A x' y' = p' at *
  generalize af B x y = q at *
  generalize af B x' y' = q' at *
  constructor
  · intro e
    have e1 : p = p' := by
      have h1 : (n * p + q) / n = p := by rw [Nat.mul_add_div (by omega), Nat.div_eq_of_lt b.2]; omega
      have h2 : (n * p' + q') / n = p' := by rw [Nat.mul_add_div (by omega), Nat.div_eq_of_lt b'.2]; omega
      rw [← h1, ← h2, e]
    subst e1
    exact ⟨rfl, by omega⟩
  · rintro ⟨e1, e2⟩
    rw [show p = p' by omega, show q = q' by omega]
theorem SnI.ort (hA : Sq0 n A) (hB : Sq0 n B) {N : Nat} {s : List Bool} (h : SnI n N (ovF n A B) n 0 s) : Ort n A B := fun x y x' y' hx hy hx' hy' e1 e2 =>
  h.done x y x' y' hx hy hx' hy' ((ovF_inj hA hB hx hy hx' hy').2 ⟨e1, e2⟩)
end
/-! ### lists of squares -/
structure Mols (X : List (List (List Int))) : Prop where
  pos : 1 ≤ X.length
  le : X.length ≤ 10
  lat : ∀ k, k < X.length → Lat (x3at X k)
  ort : ∀ k i, i < k → k < X.length → orB (x3at X k) (x3at X i) = true
/-- all squares have as many rows -/
theorem Mols.len {X : List (List (List Int))} (h : Mols X) {k : Nat} (hk : k < X.length) : (x3at X k).length = (x3at X 0).length := by
  rcases Nat.eq_zero_or_pos k with rfl | h0
  · rfl
  · exact (orB_t (h.ort k 0 h0 hk)).1
end Go.Proofs.YtljemlfocajhnaaGreat
end

section
/- Walks: permutations that are made and drawn; composition, inverses. Walks: composition and inverses of permutations. -/
namespace Go.Proofs.YtljemlfocajhnaaGreat
set_option linter.unusedSimpArgs false
set_option linter.unusedVariables false
open Go.RowKit
attribute [local go_sem ↓] Go.wp_at_zero Go.wp_at_succ


set_option maxHeartbeats 1000000 in
set_option maxRecDepth 100000 in
theorem l04One_c (n : Nat) (w : World) (hn : n ≤ 1000) : Calls Tryz.prog 63 #[.int .i64 n] w (MakesI w (iot n)) := by
  have hS0 : St w.heap.size w (w.alloc (.cells #[] 2)) [row 2 (.slice (some ⟨w.heap.size, 0, none⟩) 0 0) (iv [])] := (St.refl w).new 2 #[] (by simp)
  go_enter Tryz.func63, Tryz.ntmps63
  go_wp2_with fail
  go_loopw [3, 4] (fun o x wr => ∃ k : Nat, k ≤ n ∧ x = .int .i64 k ∧ St w.heap.size w wr [row 2 o (iv (iot k))]) (fun _ x _ => n - (intOf x).toNat)
  case atStart => exact ⟨0, by omega, rfl, hS0⟩
  case round =>
    obtain ⟨k, hk, rfl, hS⟩ := hrel
    have hkl := iot_len k
    by_cases hlt : k < n
    · go_wp2_with (at_builtin; refine appI hS 0 rfl (by omega) rfl _ _ rfl rfl _ rfl ?_; intro v2 w2 hS2)
      go_roundw
      case rel => exact ⟨k + 1, by omega, by go_num, by rw [iot_succ]; exact hS2⟩
      case measure => simp [intOf]; omega
    · obtain rfl : k = n := by omega
      go_wp2_with fail
      go_ret
      exact ⟨_, rfl, hS⟩
/-- a permutation of n numbers, and the source goes on -/
def PermS (w0 : World) (cv : Value) (g K n : Nat) (L : List Ent) (e : Ending) (w' : World) : Prop := ∃ v xs, e = .returned v ∧ xs.length = n ∧ IsP xs ∧ Src w0 w' cv g K (row 2 v (iv xs) :: L)
set_option maxHeartbeats 2000000 in
set_option maxRecDepth 100000 in
theorem l04DrawPerm_c (w0 w : World) (cv : Value) (bs : List UInt8) (g K : Nat) (L : List Ent) (n : Nat) (hb : RdB w0 cv bs) (h : Src w0 w cv g K L) (hK : K < 100000000000) (hn : n ≤ 1000) :
    Calls Tryz.prog 36 #[.pointer (some ⟨g, 0, none⟩), .int .i64 n] w (PermS w0 cv g (K + 2 * n) n L) := by
  go_enter Tryz.func36, Tryz.ntmps36
  go_wp2_with fail
  refine (l04One_c n w hn).mono ?_
  rintro e w1 ⟨u, rfl, h1⟩
  have h2 := (h.call h1).perm List.perm_append_comm
  simp only [List.cons_append, List.nil_append] at h2
  clear h h1
  go_wp2_with fail
  go_loopw [6, 7, 8] (fun x _ _ wr => ∃ (j : Nat) (xs : List Int), j ≤ n ∧ x = .int .i64 ((j : Int) - 1) ∧ Hid (xs.length = n) ∧ Hid (IsP xs) ∧ Src w0 wr cv g (K + 2 * (n - j)) (row 2 u (iv xs) :: L)) (fun x _ _ _ => (intOf x).toNat)
  case atStart => exact ⟨n, iot n, by omega, by go_num, iot_len n, iot_isP n, h2.mono (by omega)⟩
  case round =>
    clear h2
    obtain ⟨j, xs, hj, rfl, hl, hp, hs⟩ := hrel
    by_cases h2 : 2 ≤ j
    · go_wp2_with fail
      refine (pick_c w0 wr cv bs g _ _ _ hb hs (by omega)).mono ?_
      rintro e w2 ⟨x, x0, x1, rfl, h3⟩
      obtain ⟨y, rfl⟩ := Int.eq_ofNat_of_zero_le x0
      have hyj : y < j := by omega
      have hyk : y < n := by omega
      have hr := h3.rdI 0 rfl
      have hi1 := hr.ixe ((j : Int) - 1) (j - 1) (by omega) (by rw [hl.out]; omega)
      have hi2 := hr.ixe (y : Int) y rfl (by rw [hl.out]; omega)
      have hc1 := hr.cell (j - 1) (by rw [hl.out]; omega)
      have hc2 := hr.cell y (by rw [hl.out]; omega)
      have Hsw := Lib.hid (hp.out.swp (i := j - 1) (k := y) (by rw [hl.out]; omega) (by rw [hl.out]; omega))
      obtain ⟨pp, ss, s0, s1, hS⟩ := h3
      clear hr x1 x0 hs
      go_wp2_with (first
        | (refine stoI hS2 1 rfl y (by rw [List.length_set, hl.out]; exact hyk) rfl _ _ rfl rfl _ rfl ?_; intro w3 hS3)
        | (refine stoI hS 1 rfl (j - 1) (by rw [hl.out]; omega) rfl _ _ rfl rfl _ rfl ?_; intro w2 hS2))
      go_roundw
      case rel => exact ⟨j - 1, swp2 xs (j - 1) y, by omega, by go_num, by unfold Hid; rw [swp2_len]; exact hl.out, Hsw.out, pp, ss, s0, by omega, hS3⟩
      case measure => simp [intOf]; omega
    · go_wp2_with fail
      go_ret
      exact ⟨_, xs, rfl, hl.out, hp.out, hs.mono (by omega)⟩
end Go.Proofs.YtljemlfocajhnaaGreat
end

section
/- Walks: the cycles of a permutation. Walks: SignOf; the law FnPermutations. Walks: CyclesOf, SignOf and OrderOfPermutation of any list, powers, permutations made of cycles, types. -/
namespace Go.Proofs.YtljemlfocajhnaaGreat
set_option linter.unusedSimpArgs false
set_option linter.unusedVariables false
open Go.RowKit
attribute [local go_sem ↓] Go.wp_at_zero Go.wp_at_succ
/-- the first j numbers of the cycle of x -/
def cyP (xs : List Int) (x j : Nat) : List Int := (List.range j).map fun i => ((it (pf xs) i x : Nat) : Int)
/-- what is seen: all cycles that numbers below m lead, and the first j numbers of that of m -/
def Seen (xs : List Int) (m j : Nat) (s : List Bool) : Prop := s.length = xs.length ∧ ∀ y, y < xs.length → (bat s y = true ↔ y ∈ (cycs xs.length (pf xs) m).flatten ∨ ∃ i, i < j ∧ y = it (pf xs) i m)
theorem Seen.start (xs : List Int) : Seen xs 0 0 (List.replicate xs.length false) := ⟨by simp, fun y hy => by rw [bat_rep]; simp [cycs]⟩
theorem Seen.step {xs : List Int} {m j : Nat} {s : List Bool} (h : Seen xs m j s) (hp : IsP xs) (hm : m < xs.length) : Seen xs m (j + 1) (s.set (it (pf xs) j m) true) := by
  have hlt := it_lt hp.bij hm j
  refine ⟨by rw [List.length_set]; exact h.1, fun y hy => ?_⟩
  rw [bat_set (by rw [h.1]; exact hlt)]
  by_cases e : it (pf xs) j m = y
  · rw [if_pos e]; exact ⟨fun _ => .inr ⟨j, by omega, e.symm⟩, fun _ => rfl⟩
  · rw [if_neg e, h.2 y hy]
    constructor
    · rintro (h1 | ⟨i, hi, e2⟩)
      · exact .inl h1
      · exact .inr ⟨i, by omega, e2⟩
    · rintro (h1 | ⟨i, hi, e2⟩)
      · exact .inl h1
      · refine .inr ⟨i, ?_, e2⟩
        refine Nat.lt_of_le_of_ne (by omega) fun e3 => e ?_
        rw [e2, e3]
theorem Seen.no {xs : List Int} {m : Nat} {s : List Bool} (h : Seen xs m 0 s) (hp : IsP xs) (hm : m < xs.length) (hL : ¬ Lead (pf xs) m) : bat s m = true ∧ Seen xs (m + 1) 0 s := by
  have hs := fun hh => hL ((lead_seen hp.bij hm).2 hh)
  refine ⟨(h.2 m hm).2 (.inl (Classical.byContradiction hs)), h.1, fun y hy => ?_⟩
  rw [h.2 y hy, cycs, if_neg hL]; simp
theorem Seen.fresh {xs : List Int} {m j : Nat} {s : List Bool} (h : Seen xs m j s) (hp : IsP xs) (hm : m < xs.length) (hL : Lead (pf xs) m) (hj : j < clen xs.length (pf xs) m) : bat s (it (pf xs) j m) = false := by
  have hlt := it_lt hp.bij hm j
  have hc := clen_ok hp.bij hm
  cases e : bat s (it (pf xs) j m) with
  | false => rfl
  | true =>
    rcases (h.2 _ hlt).1 e with h1 | ⟨i, hi, e2⟩
    · exact absurd h1 (lead_fresh hp.bij hm hL ((mem_cycL hp.bij hm).2 ⟨j, rfl⟩))
    · have := hc.inj hp.bij hm hj (by omega) e2; omega
theorem Seen.back {xs : List Int} {m : Nat} {s : List Bool} (h : Seen xs m (clen xs.length (pf xs) m) s) (hp : IsP xs) (hm : m < xs.length) (hL : Lead (pf xs) m) : bat s (it (pf xs) (clen xs.length (pf xs) m) m) = true ∧ Seen xs (m + 1) 0 s := by
  have hc := clen_ok hp.bij hm
  have hb := hc.back
  refine ⟨?_, h.1, fun y hy => ?_⟩
  · rw [hb]; exact (h.2 m hm).2 (.inr ⟨0, hc.pos, rfl⟩)
  · rw [h.2 y hy, cycs, if_pos hL]
    simp only [List.flatten_append, List.flatten_cons, List.flatten_nil, List.append_nil, List.mem_append]
    constructor
    · rintro (h1 | ⟨i, hi, rfl⟩)
      · exact .inl (.inl h1)
      · exact .inl (.inr ((mem_cycL hp.bij hm).2 ⟨i, rfl⟩))
    · rintro ((h1 | h1) | ⟨i, hi, _⟩)
      · exact .inl h1
      · unfold cycL at h1
        obtain ⟨i, hi, rfl⟩ := List.mem_map.1 h1
        exact .inr ⟨i, List.mem_range.1 hi, rfl⟩
      · omega
/-- what the list of cycles is -/
structure CyOk (xs : List Int) (C : List (List Int)) : Prop where
  shape : ∀ t, t < C.length → ∃ m, m < xs.length ∧ xat C t = cyP xs m (clen xs.length (pf xs) m)
  all : ∀ y, y < xs.length → ∃ t k, t < C.length ∧ k < (xat C t).length ∧ nth (xat C t) k = (y : Int)
  nodup : C.flatten.Nodup
  sum : C.flatten.length = xs.length
/-- a number of a later place is not among those of earlier ones -/
theorem CyOk.fresh {xs : List Int} {C : List (List Int)} (h : CyOk xs C) {t k : Nat} (ht : t < C.length) (hk : k < (xat C t).length) : nth (xat C t) k ∉ (C.take t).flatten ++ (xat C t).take k := by
  have hs : C.flatten = (C.take t).flatten ++ ((xat C t).take k ++ (nth (xat C t) k :: ((xat C t).drop (k + 1) ++ (C.drop (t + 1)).flatten))) := by
    conv => lhs; rw [← List.take_append_drop t C, drop_xat ht]
    rw [List.flatten_append, List.flatten_cons]
    congr 1
    rw [← List.cons_append, ← drop_nth hk, ← List.append_assoc, List.take_append_drop]
  have hn := h.nodup
  rw [hs, ← List.append_assoc, List.nodup_append] at hn
  exact fun hm => hn.2.2 _ hm _ (by simp) rfl
/-! ### the least common multiple, bounded -/
end Go.Proofs.YtljemlfocajhnaaGreat
end

section
/- Walks: valid Latin squares, isotopes, of the program. Walks: isotopes of the program. -/
namespace Go.Proofs.YtljemlfocajhnaaGreat
set_option linter.unusedSimpArgs false
set_option linter.unusedVariables false
open Go.RowKit
attribute [local go_sem ↓] Go.wp_at_zero Go.wp_at_succ


/-- a permutation of n numbers -/
noncomputable def pvN (n : Nat) (xs : List Int) : Bool := decide (xs.length = n) && pvB xs
/-- all rows are permutations of n numbers -/
noncomputable def allP (n : Nat) (A : List (List Int)) : Bool := !anyR (fun r => !pvN n r) A
theorem allP_at {n : Nat} {A : List (List Int)} (h : allP n A = true) {x : Nat} (hx : x < A.length) : (xat A x).length = n ∧ pvB (xat A x) = true := by
  unfold allP anyR at h
  have h' : A.any (fun r => !pvN n r) = false := by simpa using h
  have := List.any_eq_false.1 h' _ (xat_mem hx)
  simpa [pvN] using this
theorem allP_of {n : Nat} {A : List (List Int)} (h : ∀ x, x < A.length → (xat A x).length = n ∧ pvB (xat A x) = true) : allP n A = true := by
  unfold allP anyR
  have : A.any (fun r => !pvN n r) = false := by
    rw [List.any_eq_false]
    intro r hr
    obtain ⟨x, hx, rfl⟩ := List.getElem_of_mem hr
    have := h x hx
    rw [xat_eq hx] at this
    simp [pvN, this]
  rw [this]; rfl
theorem Lat.mk' {A : List (List Int)} (h1 : 1 ≤ A.length) (h2 : A.length ≤ 10) (ha : allP A.length A = true) (hc : ∀ y, y < A.length → pvB (colL A y) = true) : Lat A :=
  ⟨h1, h2, fun _ hx => (allP_at ha hx).1, fun _ hx => (pvB_t (allP_at ha hx).2).2, fun y hy => (pvB_t (hc y hy)).2⟩
theorem Lat.allP {A : List (List Int)} (h : Lat A) : allP A.length A = true := allP_of fun x hx => ⟨h.len x hx, pvB_yes (by rw [h.len x hx]; have := h.le; omega) (h.row x hx)⟩
/-- a square and a code -/
def IIK (w : World) (A : List (List Int)) (c : Int) (e : Ending) (w' : World) : Prop := ∃ v us, e = .returned (.tuple #[v, .int .i64 c]) ∧ us.length = A.length ∧ St w.heap.size w w' (own2 v us A)
theorem IIK.no {w w' : World} {L : List Ent} {c : Int} (h : St w.heap.size w w' L) : IIK w [] c (.returned (.tuple #[.slice none 0 0, .int .i64 c])) w' := ⟨_, [], rfl, rfl, h.out.newnil _⟩
end Go.Proofs.YtljemlfocajhnaaGreat
end
