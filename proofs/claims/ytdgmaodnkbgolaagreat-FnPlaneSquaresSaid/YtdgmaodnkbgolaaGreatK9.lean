/- The texts of this claim, run 9: PNc Cc Ds7 Ds8 Ds9 DsA. -/
import Derived.Test.YtdgmaodnkbgolaaGreatK3
import Derived.Test.YtdgmaodnkbgolaaGreatK4
import Derived.Test.YtdgmaodnkbgolaaGreatK5
import Derived.Test.YtdgmaodnkbgolaaGreatK7
import Derived.Test.YtdgmaodnkbgolaaGreatK8

section
/- Plain: the parallel classes of the plane of orthogonal squares, and squares out of them. -/
namespace Go.Proofs.YtdgmaodnkbgolaaGreat
set_option linter.unusedSimpArgs false
set_option linter.unusedVariables false

def ntA (Y : List (List (List Int))) (n : Nat) : List (List Int) := srtL (ntU Y n (n + 1))
/-- direction and symbol of a line -/
noncomputable def lbI (Y : List (List (List Int))) (n i : Nat) : Nat × Nat :=
  open Classical in if h : ∃ q : Nat × Nat, q.1 < n + 1 ∧ q.2 < n ∧ xat (ntA Y n) i = lnN Y n q.1 q.2 then h.choose else (0, 0)
theorem xatN_l {X : List (List Int)} {x : List Int} {a : Nat} (h : a < X.length) : xat (X ++ [x]) a = xat X a := by
  unfold xat; rw [List.getD_eq_getElem?_getD, List.getElem?_append_left h, ← List.getD_eq_getElem?_getD]
theorem xatN_r {X : List (List Int)} {x : List Int} : xat (X ++ [x]) X.length = x := by
  unfold xat; simp
theorem xatN_s {M : List (List Int)} {j t : Nat} {r : List Int} (h : j < M.length) : xat (M.set j r) t = if j = t then r else xat M t := by
  unfold xat
  rw [List.getD_eq_getElem?_getD, List.getElem?_set]
  split
  · rename_i e; subst e; simp [h]
  · simp [List.getD_eq_getElem?_getD]
theorem nthN_0 {xs : List Int} {y : Int} (h : 0 < xs.length) : nth (xs ++ [y]) 0 = nth xs 0 := by
  cases xs with
  | nil => simp at h
  | cons x xs => rfl
theorem nd_inj {X : List (List Int)} (hn : X.Nodup) {i j : Nat} (hi : i < X.length) (hj : j < X.length) (e : xat X i = xat X j) : i = j := by
  rw [List.nodup_iff_pairwise_ne, List.pairwise_iff_getElem] at hn
  rw [xat_eq hi, xat_eq hj] at e
  rcases Nat.lt_trichotomy i j with h | h | h
  · exact absurd e (hn i j hi hj h)
  · exact h
  · exact absurd e.symm (hn j i hj hi h)
theorem nd_injI {X : List Int} (hn : X.Nodup) {i j : Nat} (hi : i < X.length) (hj : j < X.length) (e : nth X i = nth X j) : i = j := by
  rw [List.nodup_iff_pairwise_ne, List.pairwise_iff_getElem] at hn
  rw [nth_eq hi, nth_eq hj] at e
  rcases Nat.lt_trichotomy i j with h | h | h
  · exact absurd e (hn i j hi hj h)
  · exact h
  · exact absurd e.symm (hn j i hj hi h)
theorem idxR_spec (p : List Int → Bool) (X : List (List Int)) : (idxR p X 0 = -1 ∧ ∀ a, a < X.length → p (xat X a) = false) ∨ ∃ j : Nat, j < X.length ∧ idxR p X 0 = (j : Int) ∧ p (xat X j) = true := by
  unfold idxR
  rw [List.drop_zero]
  cases h : X.findIdx? p with
  | none =>
    left
    refine ⟨rfl, fun a ha => ?_⟩
    exact List.findIdx?_eq_none_iff.1 h _ (xat_mem ha)
  | some j =>
    right
    obtain ⟨hj, hp, _⟩ := List.findIdx?_eq_some_iff_getElem.1 h
    exact ⟨j, hj, by simp, by rw [xat_eq hj]; exact hp⟩
theorem idxP_spec {p : Int → Bool} {xs : List Int} {i : Nat} (hi : i < xs.length) (hp : p (nth xs i) = true) : ∃ j : Nat, j < xs.length ∧ idxP p xs 0 = (j : Int) ∧ p (nth xs j) = true := by
  unfold idxP
  rw [List.drop_zero]
  cases h : xs.findIdx? p with
  | none =>
    have := List.findIdx?_eq_none_iff.1 h _ (nth_mem hi)
    rw [hp] at this; cases this
  | some j =>
    obtain ⟨hj, hp, _⟩ := List.findIdx?_eq_some_iff_getElem.1 h
    exact ⟨j, hj, by simp, by rw [nth_eq hj]; exact hp⟩
theorem memMee {x y : List Int} (hx : IsSet x) (z : Int) : z ∈ mee x y ↔ z ∈ x ∧ z ∈ y := by
  unfold mee
  rw [mem_upF, Bool.and_eq_true, List.contains_iff_mem, List.contains_iff_mem]
  constructor
  · exact fun h => h.2.2
  · exact fun h => ⟨by have := incB_gt hx z h.1; omega, by have := incB_gt hx z h.1; omega, h⟩
section
variable {n k : Nat} {Y : List (List (List Int))} {C : List (List Int)}
theorem Net.lb (h : Net n Y) {i : Nat} (hi : i < (ntA Y n).length) : (lbI Y n i).1 < n + 1 ∧ (lbI Y n i).2 < n ∧ xat (ntA Y n) i = lnN Y n (lbI Y n i).1 (lbI Y n i).2 := by
  have hx : ∃ q : Nat × Nat, q.1 < n + 1 ∧ q.2 < n ∧ xat (ntA Y n) i = lnN Y n q.1 q.2 := by
    obtain ⟨c, s, hc, hs, e⟩ := ntU_mem.1 ((srtL_perm _).mem_iff.1 (xat_mem hi))
    exact ⟨(c, s), hc, hs, e⟩
  have hx2 : lbI Y n i = hx.choose := by unfold lbI; rw [dif_pos hx]
  rw [hx2]; exact hx.choose_spec
theorem Net.anodup (h : Net n Y) : (ntA Y n).Nodup := (srtL_perm _).nodup_iff.2 h.nodup
theorem Net.lb_inj (h : Net n Y) {i j : Nat} (hi : i < (ntA Y n).length) (hj : j < (ntA Y n).length) (e1 : (lbI Y n i).1 = (lbI Y n j).1) (e2 : (lbI Y n i).2 = (lbI Y n j).2) : i = j :=
  nd_inj h.anodup hi hj (by rw [(h.lb hi).2.2, (h.lb hj).2.2, e1, e2])
theorem Net.lb_onto (h : Net n Y) {c s : Nat} (hc : c < n + 1) (hs : s < n) : ∃ i, i < (ntA Y n).length ∧ (lbI Y n i).1 = c ∧ (lbI Y n i).2 = s := by
  have hm : lnN Y n c s ∈ ntA Y n := (srtL_perm _).mem_iff.2 (ntU_mem.2 ⟨c, s, hc, hs, rfl⟩)
  obtain ⟨i, hi, e⟩ := List.getElem_of_mem hm
  rw [← xat_eq hi] at e
  obtain ⟨a, b, d⟩ := h.lb hi
  have := h.uniq hc a hs b (by rw [← e, d])
  exact ⟨i, hi, this.1.symm, this.2.symm⟩
theorem Net.memA (h : Net n Y) {i p : Nat} (hi : i < (ntA Y n).length) : (p : Int) ∈ xat (ntA Y n) i ↔ p < n * n ∧ nF Y n (lbI Y n i).1 p = (lbI Y n i).2 := by
  rw [(h.lb hi).2.2, mem_lnN]
theorem Net.natA (h : Net n Y) {i : Nat} {z : Int} (hi : i < (ntA Y n).length) (hz : z ∈ xat (ntA Y n) i) : ∃ p : Nat, z = p ∧ p < n * n := by
  rw [(h.lb hi).2.2] at hz
  obtain ⟨p, e, hp, _⟩ := lnN_nat hz
  exact ⟨p, e, hp⟩
theorem Net.set (h : Net n Y) (h5 : n ≤ 5) {i : Nat} (hi : i < (ntA Y n).length) : IsSet (xat (ntA Y n) i) := by
  have hnn : n * n ≤ 5 * 5 := Nat.mul_le_mul h5 h5
  rw [(h.lb hi).2.2]
  exact incB_upF _ _ _ (by omega) (by omega)
theorem Net.meB_mem (h : Net n Y) (h5 : n ≤ 5) {i j : Nat} (hi : i < (ntA Y n).length) (hj : j < (ntA Y n).length) (z : Int) : z ∈ meB (xat (ntA Y n) i) (xat (ntA Y n) j) ↔ z ∈ xat (ntA Y n) i ∧ z ∈ xat (ntA Y n) j := by
  unfold meB ifSets
  rw [if_pos ⟨h.set h5 hi, h.set h5 hj⟩, memMee (h.set h5 hi)]
/-- lines of different directions meet -/
theorem Net.meet (h : Net n Y) (h5 : n ≤ 5) {i j : Nat} (hi : i < (ntA Y n).length) (hj : j < (ntA Y n).length) (hd : (lbI Y n i).1 ≠ (lbI Y n j).1) : 0 < (meB (xat (ntA Y n) i) (xat (ntA Y n) j)).length := by
  obtain ⟨p, hp, e1, e2⟩ := h.pt (h.lb hi).1 (h.lb hj).1 hd (h.lb hi).2.1 (h.lb hj).2.1
  exact List.length_pos_of_mem ((h.meB_mem h5 hi hj p).2 ⟨(h.memA hi).2 ⟨hp, e1⟩, (h.memA hj).2 ⟨hp, e2⟩⟩)
theorem Net.apart (h : Net n Y) (h5 : n ≤ 5) {i j : Nat} (hi : i < (ntA Y n).length) (hj : j < (ntA Y n).length) (hd : (lbI Y n i).1 = (lbI Y n j).1) (hij : i ≠ j) : (meB (xat (ntA Y n) i) (xat (ntA Y n) j)).length = 0 := by
  rw [List.length_eq_zero_iff, List.eq_nil_iff_forall_not_mem]
  intro z hz
  obtain ⟨z1, z2⟩ := (h.meB_mem h5 hi hj z).1 hz
  obtain ⟨p, rfl, hp⟩ := h.natA hi z1
  have a := ((h.memA hi).1 z1).2
  have b := ((h.memA hj).1 z2).2
  rw [hd] at a
  exact hij (h.lb_inj hi hj hd (by rw [← a, b]))
noncomputable def dC (Y : List (List (List Int))) (n : Nat) (C : List (List Int)) (a : Nat) : Nat := (lbI Y n (nth (xat C a) 0).toNat).1
/-- the classes of the first k lines -/
structure PcI (Y : List (List (List Int))) (n k : Nat) (C : List (List Int)) : Prop where
  pos : ∀ a, a < C.length → 0 < (xat C a).length
  mem : ∀ a, a < C.length → ∀ z ∈ xat C a, ∃ j : Nat, j < k ∧ z = j ∧ (lbI Y n j).1 = dC Y n C a
  all : ∀ j, j < k → ∃ a, a < C.length ∧ (j : Int) ∈ xat C a
  dis : ∀ a b, a < C.length → b < C.length → dC Y n C a = dC Y n C b → a = b
  nd : ∀ a, a < C.length → (xat C a).Nodup
theorem PcI.start : PcI Y n 0 [] := ⟨fun a h => by simp at h, fun a h => by simp at h, fun j h => by omega, fun a b h => by simp at h, fun a h => by simp at h⟩
theorem PcI.first (hI : PcI Y n k C) {a : Nat} (ha : a < C.length) : ∃ j : Nat, j < k ∧ nth (xat C a) 0 = j ∧ (lbI Y n j).1 = dC Y n C a := hI.mem a ha _ (nth_mem (hI.pos a ha))
theorem Net.pcF (h : Net n Y) (h5 : n ≤ 5) (hI : PcI Y n k C) (hk : k < (ntA Y n).length) {a : Nat} (ha : a < C.length) : pcF (ntA Y n) k (xat C a) = true ↔ dC Y n C a = (lbI Y n k).1 := by
  obtain ⟨j, hj, e, hd⟩ := hI.first ha
  unfold Go.Proofs.YtdgmaodnkbgolaaGreat.pcF
  rw [decide_eq_true_eq, e, Int.toNat_natCast, ← hd]
  constructor
  · intro h0
    by_cases q : (lbI Y n j).1 = (lbI Y n k).1
    · exact q
    · have := h.meet h5 (i := j) (j := k) (by omega) hk q; omega
  · intro q
    exact h.apart h5 (by omega) hk q (by omega)
theorem Net.pcStep (h : Net n Y) (h5 : n ≤ 5) (hI : PcI Y n k C) (hk : k < (ntA Y n).length) : PcI Y n (k + 1) (pcS (ntA Y n) C k) := by
  have hf := fun a (ha : a < C.length) => h.pcF h5 hI hk ha
  rcases idxR_spec (Go.Proofs.YtdgmaodnkbgolaaGreat.pcF (ntA Y n) k) C with ⟨e, hno⟩ | ⟨j, hj, e, hyes⟩
  · have hS : pcS (ntA Y n) C k = C ++ [[(k : Int)]] := by unfold pcS; rw [if_pos (by rw [e]; omega)]
    have hl : (C ++ [[(k : Int)]]).length = C.length + 1 := by simp
    have hdl : ∀ a, a < C.length → dC Y n (C ++ [[(k : Int)]]) a = dC Y n C a := fun a ha => by unfold dC; rw [xatN_l ha]
    have hdr : dC Y n (C ++ [[(k : Int)]]) C.length = (lbI Y n k).1 := by unfold dC; rw [xatN_r]; rfl
    have hne : ∀ a, a < C.length → dC Y n C a ≠ (lbI Y n k).1 := fun a ha q => by
      have := (hf a ha).2 q
      rw [hno a ha] at this; cases this
    rw [hS]
    refine ⟨fun a ha => ?_, fun a ha z hz => ?_, fun j hj => ?_, fun a b ha hb q => ?_, fun a ha => ?_⟩
    · by_cases q : a < C.length
      · rw [xatN_l q]; exact hI.pos a q
      · obtain rfl : a = C.length := by omega
        rw [xatN_r]; simp
    · by_cases q : a < C.length
      · rw [xatN_l q] at hz
        obtain ⟨j, h1, h2, h3⟩ := hI.mem a q z hz
        exact ⟨j, by omega, h2, by rw [hdl a q]; exact h3⟩
      · obtain rfl : a = C.length := by omega
        rw [xatN_r] at hz
        rw [hdr]
        exact ⟨k, by omega, by simpa using hz, rfl⟩
    · by_cases q : j = k
      · subst q
        exact ⟨C.length, by omega, by rw [xatN_r]; simp⟩
      · obtain ⟨a, ha, hm⟩ := hI.all j (by omega)
        exact ⟨a, by omega, by rw [xatN_l ha]; exact hm⟩
    · by_cases qa : a < C.length
      · by_cases qb : b < C.length
        · rw [hdl a qa, hdl b qb] at q; exact hI.dis a b qa qb q
        · obtain rfl : b = C.length := by omega
          rw [hdl a qa, hdr] at q; exact absurd q (hne a qa)
      · obtain rfl : a = C.length := by omega
        by_cases qb : b < C.length
        · rw [hdl b qb, hdr] at q; exact absurd q.symm (hne b qb)
        · omega
    · by_cases q : a < C.length
      · rw [xatN_l q]; exact hI.nd a q
      · obtain rfl : a = C.length := by omega
        rw [xatN_r]; simp
  · have hS : pcS (ntA Y n) C k = C.set j (xat C j ++ [(k : Int)]) := by unfold pcS; rw [if_neg (by rw [e]; omega), e, Int.toNat_natCast]
    have hl : (C.set j (xat C j ++ [(k : Int)])).length = C.length := List.length_set
    have hx := fun a => xatN_s (M := C) (t := a) (r := xat C j ++ [(k : Int)]) hj
    have hdj := (hf j hj).1 hyes
    have hd : ∀ a, dC Y n (C.set j (xat C j ++ [(k : Int)])) a = dC Y n C a := fun a => by
      unfold dC
      rw [hx a]
      by_cases q : j = a
      · subst q; rw [if_pos rfl, nthN_0 (hI.pos j hj)]
      · rw [if_neg q]
    rw [hS]
    refine ⟨fun a ha => ?_, fun a ha z hz => ?_, fun i hi => ?_, fun a b ha hb q => ?_, fun a ha => ?_⟩
    · rw [hx a]
      split
      · simp
      · exact hI.pos a (by omega)
    · rw [hd a]
      rw [hx a] at hz
      by_cases q : j = a
      · subst q
        rw [if_pos rfl] at hz
        rcases List.mem_append.1 hz with hz | hz
        · obtain ⟨i, h1, h2, h3⟩ := hI.mem j hj z hz
          exact ⟨i, by omega, h2, h3⟩
        · exact ⟨k, by omega, by simpa using hz, hdj.symm⟩
      · rw [if_neg q] at hz
        obtain ⟨i, h1, h2, h3⟩ := hI.mem a (by omega) z hz
        exact ⟨i, by omega, h2, h3⟩
    · by_cases q : i = k
      · subst q
        exact ⟨j, by omega, by rw [hx j, if_pos rfl]; simp⟩
      · obtain ⟨a, ha, hm⟩ := hI.all i (by omega)
        refine ⟨a, by omega, ?_⟩
        rw [hx a]
        split
        · rename_i q2; subst q2; exact List.mem_append_left _ hm
        · exact hm
    · rw [hd a, hd b] at q
      exact hI.dis a b (by omega) (by omega) q
    · rw [hx a]
      by_cases q : j = a
      · subst q
        rw [if_pos rfl, List.nodup_append]
        refine ⟨hI.nd j hj, by simp, fun x hx y hy q => ?_⟩
        obtain ⟨i, h1, h2, h3⟩ := hI.mem j hj x hx
        have : y = (k : Int) := by simpa using hy
        omega
      · rw [if_neg q]; exact hI.nd a (by omega)
theorem Net.pcI (h : Net n Y) (h5 : n ≤ 5) : ∀ k, k ≤ (ntA Y n).length → PcI Y n k (pcK (ntA Y n) k)
  | 0, _ => PcI.start
  | k + 1, hk => by
    rw [pcK]
    exact h.pcStep h5 (h.pcI h5 k (by omega)) (by omega)
/-- all classes -/
structure Cls (Y : List (List (List Int))) (n : Nat) (C : List (List Int)) : Prop where
  i : PcI Y n (ntA Y n).length C
  len : C.length = n + 1
  row : ∀ a, a < n + 1 → (xat C a).length = n
theorem Net.cls (h : Net n Y) (hI : PcI Y n (ntA Y n).length C) : Cls Y n C := by
  have ht := h.two
  have hlt : ∀ a, a < C.length → dC Y n C a < n + 1 := fun a ha => by
    obtain ⟨j, hj, _, hd⟩ := hI.first ha
    rw [← hd]; exact (h.lb hj).1
  have hon : ∀ c, ∃ a, c < n + 1 → a < C.length ∧ dC Y n C a = c := fun c => by
    by_cases hc : c < n + 1
    · obtain ⟨i, hi, e, _⟩ := h.lb_onto hc (show 0 < n by omega)
      obtain ⟨a, ha, hm⟩ := hI.all i hi
      obtain ⟨j, _, e2, hd⟩ := hI.mem a ha _ hm
      have : i = j := by omega
      subst this
      exact ⟨a, fun _ => ⟨ha, by rw [← hd, e]⟩⟩
    · exact ⟨0, fun q => absurd q hc⟩
  have hl : C.length = n + 1 := by
    apply Nat.le_antisymm
    · have := len_injG (B := List.range C.length) (C := List.range (n + 1)) List.nodup_range (fun a => dC Y n C a) (fun a ha => List.mem_range.2 (hlt a (List.mem_range.1 ha))) (fun a ha b hb e => hI.dis a b (List.mem_range.1 ha) (List.mem_range.1 hb) e)
      rwa [List.length_range, List.length_range] at this
    · have := len_injG (B := List.range (n + 1)) (C := List.range C.length) List.nodup_range (fun c => (hon c).choose) (fun c hc => List.mem_range.2 ((hon c).choose_spec (List.mem_range.1 hc)).1) (fun c hc d hd e => by
        have h1 := ((hon c).choose_spec (List.mem_range.1 hc)).2
        have h2 := ((hon d).choose_spec (List.mem_range.1 hd)).2
        rw [← h1, ← h2, e])
      rwa [List.length_range, List.length_range] at this
  refine ⟨hI, hl, fun a ha => ?_⟩
  apply Nat.le_antisymm
  · have := len_injG (C := List.range n) (hI.nd a (by omega)) (fun z => (lbI Y n z.toNat).2) (fun z hz => by
      obtain ⟨j, hj, rfl, _⟩ := hI.mem a (by omega) z hz
      rw [Int.toNat_natCast, List.mem_range]; exact (h.lb hj).2.1) (fun x hx y hy e => by
      obtain ⟨i, hi, rfl, d1⟩ := hI.mem a (by omega) x hx
      obtain ⟨j, hj, rfl, d2⟩ := hI.mem a (by omega) y hy
      simp only [Int.toNat_natCast] at e
      rw [h.lb_inj hi hj (by rw [d1, d2]) e])
    rwa [List.length_range] at this
  · have hs : ∀ s, ∃ i, s < n → i < (ntA Y n).length ∧ (lbI Y n i).1 = dC Y n C a ∧ (lbI Y n i).2 = s := fun s => by
      by_cases q : s < n
      · obtain ⟨i, h1, h2⟩ := h.lb_onto (hlt a (by omega)) q
        exact ⟨i, fun _ => ⟨h1, h2⟩⟩
      · exact ⟨0, fun q2 => absurd q2 q⟩
    have := len_injG (B := List.range n) (C := xat C a) List.nodup_range (fun s => (((hs s).choose : Nat) : Int)) (fun s q => by
      obtain ⟨h1, h2, h3⟩ := (hs s).choose_spec (List.mem_range.1 q)
      obtain ⟨b, hb, hm⟩ := hI.all _ h1
      obtain ⟨j, _, e, hd⟩ := hI.mem b hb _ hm
      have e2 : (hs s).choose = j := by omega
      have : b = a := hI.dis b a hb (by omega) (by rw [← hd, ← e2, h2])
      subst this
      exact hm) (fun s q t q2 e => by
      have h1 := ((hs s).choose_spec (List.mem_range.1 q)).2.2
      have h2 := ((hs t).choose_spec (List.mem_range.1 q2)).2.2
      have e2 : (hs s).choose = (hs t).choose := by omega
      rw [← h1, ← h2, e2])
    rwa [List.length_range] at this
theorem Net.classes (h : Net n Y) (h5 : n ≤ 5) : Cls Y n (pcK (ntA Y n) (ntA Y n).length) := h.cls (h.pcI h5 _ (Nat.le_refl _))
/-! ### squares out of classes -/
section
variable (h : Net n Y) (hc : Cls Y n C)
include h hc
omit h in
theorem Cls.at' {a i : Nat} (ha : a < n + 1) (hi : i < n) : ∃ j : Nat, j < (ntA Y n).length ∧ nth (xat C a) i = j ∧ (lbI Y n j).1 = dC Y n C a :=
  hc.i.mem a (by rw [hc.len]; exact ha) _ (nth_mem (by rw [hc.row a ha]; exact hi))
omit h in
theorem Cls.same {a i i' : Nat} (ha : a < n + 1) (hi : i < n) (hi' : i' < n) (e : nth (xat C a) i = nth (xat C a) i') : i = i' :=
  nd_injI (hc.i.nd a (by rw [hc.len]; exact ha)) (by rw [hc.row a ha]; exact hi) (by rw [hc.row a ha]; exact hi') e
/-- points of one line of a class -/
theorem Cls.pts {a i p q : Nat} (ha : a < n + 1) (hi : i < n) (hp : (p : Int) ∈ xat (ntA Y n) (nth (xat C a) i).toNat) (hq : (q : Int) ∈ xat (ntA Y n) (nth (xat C a) i).toNat) : nF Y n (dC Y n C a) p = nF Y n (dC Y n C a) q := by
  obtain ⟨j, hj, e, hd⟩ := hc.at' ha hi
  rw [e, Int.toNat_natCast] at hp hq
  rw [← hd, ((h.memA hj).1 hp).2, ((h.memA hj).1 hq).2]
theorem Cls.one {a i i' p : Nat} (ha : a < n + 1) (hi : i < n) (hi' : i' < n) (hp : (p : Int) ∈ xat (ntA Y n) (nth (xat C a) i).toNat) (hq : (p : Int) ∈ xat (ntA Y n) (nth (xat C a) i').toNat) : i = i' := by
  obtain ⟨j, hj, e, hd⟩ := hc.at' ha hi
  obtain ⟨j', hj', e', hd'⟩ := hc.at' ha hi'
  refine hc.same ha hi hi' ?_
  rw [e, e']
  rw [e, Int.toNat_natCast] at hp
  rw [e', Int.toNat_natCast] at hq
  have h1 := ((h.memA hj).1 hp).2
  have h2 := ((h.memA hj').1 hq).2
  rw [hd] at h1
  rw [hd'] at h2
  rw [h.lb_inj hj hj' (by rw [hd, hd']) (by rw [← h1, h2])]
theorem Cls.dlt {a : Nat} (ha : a < n + 1) : dC Y n C a < n + 1 := by
  have ht := h.two
  obtain ⟨j, hj, _, hd⟩ := hc.at' ha (show 0 < n by omega)
  rw [← hd]; exact (h.lb hj).1
omit h in
theorem Cls.dne {a b : Nat} (ha : a < n + 1) (hb : b < n + 1) (hab : a ≠ b) : dC Y n C a ≠ dC Y n C b := fun e => hab (hc.i.dis a b (by rw [hc.len]; exact ha) (by rw [hc.len]; exact hb) e)
/-- every point is on a line of a class -/
theorem Cls.on {a p : Nat} (ha : a < n + 1) (hp : p < n * n) : ∃ i, i < n ∧ (p : Int) ∈ xat (ntA Y n) (nth (xat C a) i).toNat := by
  obtain ⟨j, hj, e1, e2⟩ := h.lb_onto (hc.dlt h ha) (h.lt (hc.dlt h ha) hp)
  obtain ⟨b, hb, hm⟩ := hc.i.all j hj
  obtain ⟨j', _, e, hd⟩ := hc.i.mem b hb _ hm
  have ej : j = j' := by omega
  subst ej
  have : b = a := hc.i.dis b a hb (by rw [hc.len]; exact ha) (by rw [← hd, e1])
  subst this
  obtain ⟨i, hi, ei⟩ := List.getElem_of_mem hm
  rw [← nth_eq hi] at ei
  exact ⟨i, by rw [← hc.row b ha]; exact hi, by rw [ei, Int.toNat_natCast]; exact (h.memA hj).2 ⟨hp, by rw [e1, e2]⟩⟩
/-- a point that is on the same lines of two classes -/
theorem Cls.eq {a b p q i j : Nat} (ha : a < n + 1) (hb : b < n + 1) (hab : a ≠ b) (hi : i < n) (hj : j < n) (hp : p < n * n) (hq : q < n * n) (p1 : (p : Int) ∈ xat (ntA Y n) (nth (xat C a) i).toNat) (q1 : (q : Int) ∈ xat (ntA Y n) (nth (xat C a) i).toNat)
    (p2 : (p : Int) ∈ xat (ntA Y n) (nth (xat C b) j).toNat) (q2 : (q : Int) ∈ xat (ntA Y n) (nth (xat C b) j).toNat) : p = q :=
  h.inj (hc.dlt h ha) (hc.dlt h hb) (hc.dne ha hb hab) hp hq (hc.pts h ha hi p1 q1) (hc.pts h hb hj p2 q2)
end
/-- the point of a row and a column -/
def bqP (A C : List (List Int)) (x y : Nat) : Int := nth (meB (xat A (nth (xat C 0) x).toNat) (xat A (nth (xat C 1) y).toNat)) 0
def hasP (A : List (List Int)) (p k : Int) : Bool := (xat A k.toNat).contains p
def bqF (A C : List (List Int)) (a x y : Nat) : Int := idxP (hasP A (bqP A C x y)) (xat C a) 0
def bqS (A C : List (List Int)) (n a : Nat) : List (List Int) := sqF n (bqF A C a)
def bqX (A C : List (List Int)) (n m : Nat) : List (List (List Int)) := (List.range m).map fun k => bqS A C n (k + 2)
section
variable (h : Net n Y) (hc : Cls Y n C) (h5 : n ≤ 5)
include h hc h5
theorem Cls.bqP_len {x y : Nat} (hx : x < n) (hy : y < n) : 0 < (meB (xat (ntA Y n) (nth (xat C 0) x).toNat) (xat (ntA Y n) (nth (xat C 1) y).toNat)).length := by
  obtain ⟨i, hi, e1, d1⟩ := hc.at' (a := 0) (by omega) hx
  obtain ⟨j, hj, e2, d2⟩ := hc.at' (a := 1) (by have := h.two; omega) hy
  rw [e1, e2, Int.toNat_natCast, Int.toNat_natCast]
  refine h.meet h5 hi hj ?_
  rw [d1, d2]
  exact hc.dne (by omega) (by have := h.two; omega) (by omega)
theorem Cls.bqP_at {x y : Nat} (hx : x < n) (hy : y < n) : ∃ p : Nat, bqP (ntA Y n) C x y = p ∧ p < n * n ∧ (p : Int) ∈ xat (ntA Y n) (nth (xat C 0) x).toNat ∧ (p : Int) ∈ xat (ntA Y n) (nth (xat C 1) y).toNat := by
  have hl := hc.bqP_len h h5 hx hy
  have hm := nth_mem hl
  rw [show nth (meB (xat (ntA Y n) (nth (xat C 0) x).toNat) (xat (ntA Y n) (nth (xat C 1) y).toNat)) 0 = bqP (ntA Y n) C x y from rfl] at hm
  obtain ⟨i, hi, e1, d1⟩ := hc.at' (a := 0) (by omega) hx
  obtain ⟨j, hj, e2, d2⟩ := hc.at' (a := 1) (by have := h.two; omega) hy
  rw [e1, e2, Int.toNat_natCast, Int.toNat_natCast] at hm ⊢
  rw [h.meB_mem h5 hi hj] at hm
  obtain ⟨p, e, hp⟩ := h.natA hi hm.1
  exact ⟨p, e, hp, by rw [← e]; exact hm.1, by rw [← e]; exact hm.2⟩
theorem Cls.bqF_at {a x y : Nat} (ha : a < n + 1) (hx : x < n) (hy : y < n) : ∃ i : Nat, i < n ∧ bqF (ntA Y n) C a x y = i ∧ bqP (ntA Y n) C x y ∈ xat (ntA Y n) (nth (xat C a) i).toNat := by
  obtain ⟨p, e, hp, _, _⟩ := hc.bqP_at h h5 hx hy
  obtain ⟨i, hi, hm⟩ := hc.on h ha hp
  obtain ⟨j, hj, e2, h3⟩ := idxP_spec (p := hasP (ntA Y n) (bqP (ntA Y n) C x y)) (xs := xat C a) (i := i) (by rw [hc.row a ha]; exact hi) (by unfold hasP; rw [e, List.contains_iff_mem]; exact hm)
  unfold hasP at h3
  rw [List.contains_iff_mem] at h3
  exact ⟨j, by rw [← hc.row a ha]; exact hj, e2, h3⟩
/-- the same symbol in a square and the same row, column, or symbol of another square -/
theorem Cls.key {a b x y x' y' : Nat} {i j : Nat} (ha : a < n + 1) (hb : b < n + 1) (hab : a ≠ b) (hx : x < n) (hy : y < n) (hx' : x' < n) (hy' : y' < n) (hi : i < n) (hj : j < n)
    (p1 : bqP (ntA Y n) C x y ∈ xat (ntA Y n) (nth (xat C a) i).toNat) (q1 : bqP (ntA Y n) C x' y' ∈ xat (ntA Y n) (nth (xat C a) i).toNat)
    (p2 : bqP (ntA Y n) C x y ∈ xat (ntA Y n) (nth (xat C b) j).toNat) (q2 : bqP (ntA Y n) C x' y' ∈ xat (ntA Y n) (nth (xat C b) j).toNat) : x = x' ∧ y = y' := by
  have ht := h.two
  obtain ⟨p, e, hp, r1, r2⟩ := hc.bqP_at h h5 hx hy
  obtain ⟨q, e', hq, s1, s2⟩ := hc.bqP_at h h5 hx' hy'
  rw [e] at p1 p2
  rw [e'] at q1 q2
  have hpq := hc.eq h ha hb hab hi hj hp hq p1 q1 p2 q2
  subst hpq
  exact ⟨hc.one h (by omega) hx hx' r1 s1, hc.one h (by omega) hy hy' r2 s2⟩
theorem Cls.mols : Mols (bqX (ntA Y n) C n (n - 1)) := by
  have ht := h.two
  have hl : (bqX (ntA Y n) C n (n - 1)).length = n - 1 := by simp [bqX]
  have hat : ∀ k, k < n - 1 → x3at (bqX (ntA Y n) C n (n - 1)) k = bqS (ntA Y n) C n (k + 2) := fun k hk => by
    rw [x3at_eq (by rw [hl]; exact hk)]; simp [bqX]
  have hP := fun x y hx hy => hc.bqP_at h h5 (x := x) (y := y) hx hy
  refine ⟨by omega, by omega, fun k hk => ?_, fun k i hik hk => ?_⟩
  · rw [hl] at hk
    rw [hat k hk]
    have hF := fun x y hx hy => hc.bqF_at h h5 (a := k + 2) (x := x) (y := y) (by omega) hx hy
    have hlen : (bqS (ntA Y n) C n (k + 2)).length = n := sqF_len _ _
    have hrow : ∀ x, x < n → xat (bqS (ntA Y n) C n (k + 2)) x = tab n (bqF (ntA Y n) C (k + 2) x) := fun x hx => xat_sqF hx
    have hcol : ∀ y, y < n → ∀ x, x < n → nth (colL (bqS (ntA Y n) C n (k + 2)) y) x = bqF (ntA Y n) C (k + 2) x y := fun y hy x hx => by
      rw [nth_colL (by rw [hlen]; exact hx)]; exact at2_sqF hx hy
    refine ⟨by omega, by omega, fun x hx => ?_, fun x hx => ?_, fun y hy => ?_⟩
    · rw [hlen] at hx ⊢
      rw [hrow x hx, tab_len]
    · rw [hlen] at hx
      rw [hrow x hx]
      refine ⟨fun y hy => ?_, fun y y' hy hy' e => ?_⟩
      · rw [tab_len] at hy ⊢
        rw [nth_tab hy]
        obtain ⟨i, hi, e, _⟩ := hF x y hx hy
        omega
      · rw [tab_len] at hy hy'
        rw [nth_tab hy, nth_tab hy'] at e
        obtain ⟨i, hi, e1, m1⟩ := hF x y hx hy
        obtain ⟨i', hi', e2, m2⟩ := hF x y' hx hy'
        have ei : i = i' := by omega
        subst ei
        obtain ⟨p, ep, _, r1, _⟩ := hP x y hx hy
        obtain ⟨q, eq, _, s1, _⟩ := hP x y' hx hy'
        exact (hc.key h h5 (a := 0) (b := k + 2) (by omega) (by omega) (by omega) hx hy hx hy' hx hi (by rw [ep]; exact r1) (by rw [eq]; exact s1) m1 m2).2
    · rw [hlen] at hy
      have hcl : (colL (bqS (ntA Y n) C n (k + 2)) y).length = n := by rw [colL_len, hlen]
      refine ⟨fun x hx => ?_, fun x x' hx hx' e => ?_⟩
      · rw [hcl] at hx ⊢
        rw [hcol y hy x hx]
        obtain ⟨i, hi, e, _⟩ := hF x y hx hy
        omega
      · rw [hcl] at hx hx'
        rw [hcol y hy x hx, hcol y hy x' hx'] at e
        obtain ⟨i, hi, e1, m1⟩ := hF x y hx hy
        obtain ⟨i', hi', e2, m2⟩ := hF x' y hx' hy
        have ei : i = i' := by omega
        subst ei
        obtain ⟨p, ep, _, _, r1⟩ := hP x y hx hy
        obtain ⟨q, eq, _, _, s1⟩ := hP x' y hx' hy
        exact (hc.key h h5 (a := 1) (b := k + 2) (by omega) (by omega) (by omega) hx hy hx' hy hy hi (by rw [ep]; exact r1) (by rw [eq]; exact s1) m1 m2).1
  · rw [hl] at hk
    rw [hat k hk, hat i (by omega)]
    refine orB_yes ((sqF_len _ _).trans (sqF_len _ _).symm) ?_
    rw [show (bqS (ntA Y n) C n (k + 2)).length = n from sqF_len _ _]
    intro x y x' y' hx hy hx' hy' e1 e2
    unfold bqS at e1 e2
    rw [at2_sqF hx hy, at2_sqF hx' hy'] at e1 e2
    obtain ⟨u, hu, f1, m1⟩ := hc.bqF_at h h5 (a := k + 2) (by omega) hx hy
    obtain ⟨u', hu', f2, m2⟩ := hc.bqF_at h h5 (a := k + 2) (by omega) hx' hy'
    obtain ⟨v, hv, f3, m3⟩ := hc.bqF_at h h5 (a := i + 2) (by omega) hx hy
    obtain ⟨v', hv', f4, m4⟩ := hc.bqF_at h h5 (a := i + 2) (by omega) hx' hy'
    have a1 : u = u' := by omega
    have a2 : v = v' := by omega
    subst a1
    subst a2
    exact hc.key h h5 (by omega) (by omega) (by omega) hx hy hx' hy' hu hv m1 m2 m3 m4
end
/-! ### the net of a complete set of squares -/
def rqS (n : Nat) : List (List Int) := sqF n fun x _ => (x : Int)
def cqS (n : Nat) : List (List Int) := sqF n fun _ y => (y : Int)
def ntY (n : Nat) (X : List (List (List Int))) : List (List (List Int)) := rqS n :: cqS n :: X
theorem Mols.net {X : List (List (List Int))} (h : Mols X) (hn : (x3at X 0).length = n) (hl : X.length + 1 = n) : Net n (ntY n X) := by
  have hp := h.pos
  have hsq : ∀ k, k < X.length → Sq0 n (x3at X k) := fun k hk => by
    have := (h.lat k hk).sq0
    rwa [h.len hk, hn] at this
  have hr : Sq0 n (rqS n) := ⟨sqF_sqr _ _, fun x y hx hy => by rw [rqS, at2_sqF hx hy]; omega⟩
  have hq : Sq0 n (cqS n) := ⟨sqF_sqr _ _, fun x y hx hy => by rw [cqS, at2_sqF hx hy]; omega⟩
  have hrow : ∀ k, k < X.length → Ort n (rqS n) (x3at X k) := fun k hk x y x' y' hx hy hx' hy' e1 e2 => by
    rw [rqS, at2_sqF hx hy, at2_sqF hx' hy'] at e1
    have ex : x = x' := by omega
    subst ex
    refine ⟨rfl, ((h.lat k hk).row x (by rw [h.len hk, hn]; exact hx)).inj y y' ?_ ?_ e2⟩
    · rw [(hsq k hk).row x hx]; exact hy
    · rw [(hsq k hk).row x hx]; exact hy'
  have hcl : ∀ k, k < X.length → Ort n (cqS n) (x3at X k) := fun k hk x y x' y' hx hy hx' hy' e1 e2 => by
    rw [cqS, at2_sqF hx hy, at2_sqF hx' hy'] at e1
    have ex : y = y' := by omega
    subst ex
    have hlen : (x3at X k).length = n := (hsq k hk).len
    refine ⟨((h.lat k hk).col y (by rw [hlen]; exact hy)).inj x x' ?_ ?_ ?_, rfl⟩
    · rw [colL_len, hlen]; exact hx
    · rw [colL_len, hlen]; exact hx'
    · rw [nth_colL (by rw [hlen]; exact hx), nth_colL (by rw [hlen]; exact hx')]; exact e2
  have hrc : Ort n (rqS n) (cqS n) := fun x y x' y' hx hy hx' hy' e1 e2 => by
    rw [rqS, at2_sqF hx hy, at2_sqF hx' hy'] at e1
    rw [cqS, at2_sqF hx hy, at2_sqF hx' hy'] at e2
    omega
  have hXX : ∀ k i, i < k → k < X.length → Ort n (x3at X k) (x3at X i) := fun k i hik hk => by
    have := (orB_t (h.ort k i hik hk)).2
    rwa [h.len hk, hn] at this
  have h2 : ∀ k, x3at (ntY n X) (k + 2) = x3at X k := fun k => rfl
  -- ordered pairs
  have main : ∀ c d, c < d → d < n + 1 → Ort n (x3at (ntY n X) c) (x3at (ntY n X) d) := fun c d hcd hd => by
    match c, d, hcd, hd with
    | 0, 1, _, _ => exact hrc
    | 0, d + 2, _, hd => exact hrow d (by omega)
    | 1, d + 2, _, hd => exact hcl d (by omega)
    | c + 2, d + 2, hcd, hd => exact (hXX d c (by omega) (by omega)).symm
  refine ⟨by omega, by simp [ntY]; omega, fun c hc => ?_, fun c d hc hd hcd => ?_⟩
  · match c, hc with
    | 0, _ => exact hr
    | 1, _ => exact hq
    | c + 2, hc => exact hsq c (by omega)
  · rcases Nat.lt_or_gt_of_ne hcd with q | q
    · exact main c d q hd
    · exact (main d c q hc).symm
end
end Go.Proofs.YtdgmaodnkbgolaaGreat
end

section
/- Walks: slices.Concat on lists of squares. -/
namespace Go.Proofs.YtdgmaodnkbgolaaGreat
set_option linter.unusedSimpArgs false
set_option linter.unusedVariables false
open Go.RowKit

theorem Tryz.und_issss : Tryz.prog.underlying 100 = some (.slice 24) := by kernel_rfl
theorem Tryz.size_isss : (Tryz.prog.info? 24).map (·.size) = some 1 := by kernel_rfl
set_option maxRecDepth 100000 in
theorem GrowIII_c (n : Nat) (w : World) (hN : n ≤ 1048576) :
    Calls Tryz.prog 70 #[.slice none 0 0, .int .i64 n] w (MakesR 26 w []) := by
  by_cases h0 : 0 < n
  · obtain ⟨inf, hinf, hzz⟩ := Option.map_eq_some_iff.1 Tryz.info_iss
    simp only [Prod.mk.injEq] at hzz
    obtain ⟨hz0, hz1, hz2⟩ := hzz
    have hS1 := (St.refl w).room 26 (.slice none 0 0) rfl n (by omega)
    have hr := Lib.hid (Lib.run_append_nil_zeros (P := Tryz.prog) w 24 3 24 26 inf (.slice none 0 0) .i64 .i64 Tryz.und_isss (by kernel_rfl) hinf hz0 n h0 (by rw [hz1]; omega) (by omega) (by rw [hz2]; omega))
    clear hz0 hz1 hz2 hinf
    go_enter Tryz.func70, Tryz.ntmps70
    go_wp2_with (at_builtin; refine Lib.wpList_append_run _ rfl _ _ _ _ rfl _ _ rfl rfl _ _ hr.out ?_)
    go_ret
    exact ⟨_, rfl, hS1⟩
  · obtain rfl : n = 0 := by omega
    go_enter Tryz.func70, Tryz.ntmps70
    go_wp2_with fail
    go_ret
    exact ⟨_, rfl, (St.refl w).newnil _⟩
set_option maxHeartbeats 1000000 in
set_option maxRecDepth 100000 in
theorem ConcatIII_c (v : Value) (vs : List Value) (uss : List (List Value)) (w : World) (hv : RVV w v vs uss) (h1 : ∀ us ∈ uss, ∀ u ∈ us, u.oneCell' = true) (hN : totV uss ≤ 1048576) :
    Calls Tryz.prog 35 #[v] w (MakesR 26 w uss.flatten) := by
  have hln := run_len_sl (P := Tryz.prog) hv.1.sl 100 3 Tryz.und_issss
  have hix := run_ix_sl (P := Tryz.prog) hv.1.sl 100 Tryz.und_issss Tryz.size_isss
  have hm := hv.1.sl.le
  rw [hv.2.1] at hln hix hm
  have H1 := Lib.hid h1
  clear h1
  go_enter Tryz.func35, Tryz.ntmps35
  go_wp2_with fail
  go_loopw [3, 5, 11] (fun sz _ i wr => ∃ k : Nat, k ≤ uss.length ∧ i = .int .i64 k ∧ sz = .int .i64 (totV (uss.take k)) ∧ wr = w) (fun _ _ i _ => uss.length - (intOf i).toNat)
  case atStart => exact ⟨0, by omega, rfl, rfl, rfl⟩
  case round =>
    obtain ⟨k, hk, rfl, rfl, rfl⟩ := hrel
    by_cases hlt : k < uss.length
    · have hc := hv.1.cell (i := k) (by rw [hv.2.1]; exact hlt)
      have hr := Lib.hid (hv.2.2 k hlt)
      have hl1 := run_len_sl (P := Tryz.prog) hr.out.sl 24 3 Tryz.und_isss
      have hs := Lib.hid (totV_take_succ hlt)
      have hb := totV_take_le uss (k + 1)
      have hb2 : totV (uss.take k) + (vsat uss k).length ≤ 1048576 := by have := hs.out; omega
      rw [show vs.getD k undef = vat vs k from rfl] at hc
      go_wp2_with fail
      go_roundw
      case rel => exact ⟨k + 1, by omega, by go_num, by rw [hs.out]; congr 1, by first | rfl | trivial⟩
      case measure => simp [intOf]; omega
    · obtain rfl : k = uss.length := by omega
      rw [List.take_length]
      have Hg := fun w => Lib.hid (GrowIII_c (totV uss) w hN)
      go_wp2_with fail
      refine (Hg _).out.mono ?_
      rintro e w1 ⟨v1, rfl, hS1⟩
      go_wp2_with fail
      go_loopw [6, 8, 27] (fun nv _ i wx => ∃ k : Nat, k ≤ uss.length ∧ i = .int .i64 k ∧ St wr.heap.size wr wx [row 26 nv (uss.take k).flatten]) (fun _ _ i _ => uss.length - (intOf i).toNat)
      case atStart => exact ⟨0, by omega, rfl, hS1⟩
      case round =>
        obtain ⟨k, hk, rfl, hS⟩ := hrel
        by_cases hlt : k < uss.length
        · have hb0 := totV_take_le uss (k + 1)
          have hs := Lib.hid (totV_take_succ hlt)
          have hb2 : totV (uss.take k) + (vsat uss k).length ≤ 1048576 := by have := hs.out; omega
          have hv2 := hv.keep hS.below
          have hc := hv2.1.cell (i := k) (by rw [hv.2.1]; exact hlt)
          have hr := Lib.hid (hv2.2.2 k hlt)
          have H2 := Lib.hid (show ∀ u ∈ vsat uss k, u.oneCell' = true from fun u hu => H1.out (vsat uss k) (by rw [vsat_eq hlt]; exact List.getElem_mem hlt) u hu)
          have hN2 := Lib.hid (show (uss.take k).flatten.length + (vsat uss k).length ≤ 4294967296 by rw [totV_flat]; omega)
          have he := Lib.hid (show (uss.take k).flatten ++ vsat uss k = (uss.take (k + 1)).flatten by rw [take_vsat hlt]; simp)
          rw [show vs.getD k undef = vat vs k from rfl] at hc
          clear hv2
          go_wp2_with (at_builtin; refine wpList_st_apps rfl _ _ 24 rfl 26 (.slice none 0 0) 24 Tryz.und_isss Tryz.info_iss rfl hS 0 rfl rfl _ rfl _ hr.out H2.out (by omega) hN2.out ?_; intro v2 w2 hS2)
          go_roundw
          case rel => exact ⟨k + 1, by omega, by go_num, by rw [he.out] at hS2; exact hS2⟩
          case measure => simp [intOf]; omega
        · obtain rfl : k = uss.length := by omega
          rw [List.take_length] at hS
          go_wp2_with fail
          go_ret
          exact ⟨_, rfl, hS⟩
end Go.Proofs.YtdgmaodnkbgolaaGreat
end

section
/- Walks: how often points and pairs of points occur in a design. -/
namespace Go.Proofs.YtdgmaodnkbgolaaGreat
set_option linter.unusedSimpArgs false
set_option linter.unusedVariables false
open Go.RowKit
attribute [local go_sem ↓] Go.wp_at_zero Go.wp_at_succ

/-- a block of points 0 .. P - 1 that increases -/
structure Inc (P : Nat) (b : List Int) : Prop where
  bd : ∀ i, i < b.length → 0 ≤ nth b i ∧ nth b i < P
  lt : ∀ i j, i < j → j < b.length → nth b i < nth b j
  len : b.length ≤ P
theorem inc_of {P : Nat} {b : List Int} (h : incB (-1) P b = true) : Inc P b where
  len := by have := inc_len h (by omega); omega
  bd i hi := by have := incB_gt h _ (nth_mem hi); omega
  lt i j hij hj := by
    have := List.pairwise_iff_getElem.1 (incB_pw h) i j (by omega) hj hij
    rwa [← nth_eq (show i < b.length by omega), ← nth_eq hj] at this
theorem DOk.inc' {P : Nat} {A : List (List Int)} (h : DOk P A) {k : Nat} (hk : k < A.length) : Inc P (xat A k) := inc_of (h.inc _ (xat_mem hk))
theorem Inc.nat {P : Nat} {b : List Int} (h : Inc P b) {i : Nat} (hi : i < b.length) : ∃ x : Nat, nth b i = x ∧ x < P :=
  ⟨(nth b i).toNat, by have := h.bd i hi; omega, by have := h.bd i hi; omega⟩
theorem Inc.fresh {P : Nat} {b : List Int} (h : Inc P b) {j : Nat} (hj : j < b.length) : nth b j ∉ b.take j := by
  intro hm
  obtain ⟨i, hi, he⟩ := List.getElem_of_mem hm
  have hi' : i < j := by simp at hi; omega
  rw [List.getElem_take, ← nth_eq (show i < b.length by omega)] at he
  have := h.lt i j hi' hj
  omega
theorem mem_take1 {b : List Int} {j : Nat} (hj : j < b.length) (x : Int) : x ∈ b.take (j + 1) ↔ x ∈ b.take j ∨ x = nth b j := by
  rw [List.take_add_one, List.getElem?_eq_getElem hj, nth_eq hj, List.mem_append]
  simp only [Option.toList, List.mem_singleton]
/-- how often the points have come up, behind k blocks and j points -/
def repS (P : Nat) (A : List (List Int)) (k j : Nat) : List Int := (List.range P).map fun x => repF (A.take k) x + if (x : Int) ∈ (xat A k).take j then 1 else 0
theorem repS_len (P : Nat) (A : List (List Int)) (k j : Nat) : (repS P A k j).length = P := by simp [repS]
theorem repS_at {P : Nat} {A : List (List Int)} {k j x : Nat} (hx : x < P) : nth (repS P A k j) x = repF (A.take k) x + if (x : Int) ∈ (xat A k).take j then 1 else 0 := by
  rw [nth_eq (by rw [repS_len]; exact hx)]; simp [repS]
theorem repS_0 (P : Nat) (A : List (List Int)) : repS P A 0 0 = List.replicate P 0 := by
  apply List.ext_getElem
  · simp [repS]
  · intro i h1 h2
    simp [repS, repF, cntD]
theorem repS_bd {P : Nat} {A : List (List Int)} {k j x : Nat} (hk : k < A.length) (hA : A.length ≤ 128) (hx : x < P) : 0 ≤ nth (repS P A k j) x ∧ nth (repS P A k j) x ≤ 129 := by
  rw [repS_at hx]
  have := cntD_bd (fun b => decide ((x : Int) ∈ b)) (A.take k)
  have hl : (A.take k).length ≤ 128 := by simp; omega
  unfold repF
  split <;> omega
theorem repS_step {P : Nat} {A : List (List Int)} {k j x : Nat} (hi : Inc P (xat A k)) (hj : j < (xat A k).length) (hx : nth (xat A k) j = x) (hxP : x < P) :
    (repS P A k j).set x (nth (repS P A k j) x + 1) = repS P A k (j + 1) := by
  apply List.ext_getElem
  · simp [repS]
  · intro i h1 h2
    have hiP : i < P := by simpa [repS] using h2
    rw [← nth_eq h2, repS_at hiP, List.getElem_set]
    have hf := hi.fresh hj
    rw [hx] at hf
    have hm := mem_take1 hj (i : Int)
    rw [hx] at hm
    by_cases e : x = i
    · subst e
      rw [if_pos rfl, repS_at hxP, if_neg hf, if_pos (hm.2 (.inr rfl))]; omega
    · rw [if_neg e, ← nth_eq (by rw [repS_len]; exact hiP), repS_at hiP]
      congr 1
      have : ((i : Int) ∈ (xat A k).take (j + 1)) ↔ (i : Int) ∈ (xat A k).take j := by rw [hm]; constructor
                                                                                       · rintro (h | h)
                                                                                         · exact h
                                                                                         · omega
                                                                                       · exact .inl
      simp only [this]
theorem repS_next {P : Nat} {A : List (List Int)} {k : Nat} (hk : k < A.length) : repS P A k (xat A k).length = repS P A (k + 1) 0 := by
  refine List.map_congr_left fun x _ => ?_
  rw [List.take_length, take_xat hk]
  unfold repF
  rw [cntD_snoc]
  simp
theorem repS_end {P : Nat} {A : List (List Int)} : repS P A A.length 0 = repL P A := by
  refine List.map_congr_left fun x _ => ?_
  rw [List.take_length]; simp

set_option maxHeartbeats 2000000 in
set_option maxRecDepth 100000 in
theorem replicationsOf_c (P : Nat) (v : Value) (us : List Value) (A : List (List Int)) (w : World) (hv : RII w v us A) (hD : DOk P A) :
    Calls Tryz.prog 118 #[dv P v] w (MakesI w (repL P A)) := by
  obtain ⟨a, c, hsh⟩ := hv.1.sl.sh
  rw [hv.2.1] at hsh
  subst hsh
  have hP := hD.le
  have hDl := hD.len
  have HD := Lib.hid hD
  clear hD
  have hS1 := (St.refl w).newboxF 28 #[.int .i64 P, .slice a A.length c]
  have b0 := hS1.bcell 0 rfl 0 rfl
  have b1 := hS1.bcell 0 rfl 1 rfl
  have hix := hv.ix
  unfold dv
  go_enter Tryz.func118, Tryz.ntmps118
  go_wp2_with (at_make; refine mkI hS1 rfl _ _ rfl _ _ P (by go_num) (by go_num) (by omega) ?_; intro vc w3 hS3; have b1 := hS3.bcell 0 rfl 1 rfl)
  have hxc := (hS3.rdI 1 rfl).ixe
  rw [← repS_0 P A] at hS3 hxc
  rw [repS_len] at hxc
  go_loopw [5, 7, 14] (fun _ _ i wr => ∃ k : Nat, k ≤ A.length ∧ i = .int .i64 k ∧ St w.heap.size w wr [box 28 w.heap.size [.int .i64 P, .slice a A.length c], row 2 vc (iv (repS P A k 0))]) (fun _ _ i _ => A.length - (intOf i).toNat)
  case atStart => exact ⟨0, by omega, rfl, hS3⟩
  case round =>
    clear hS3 b0 b1
    obtain ⟨k, hk, rfl, hS⟩ := hrel
    by_cases hlt : k < A.length
    · have hc := (hS.oldII hv).cell k hlt
      have hrk := (hS.oldII hv).row k hlt
      have hlk := hrk.len
      have hik := hrk.ix
      have HI := Lib.hid (HD.out.inc' hlt)
      have hl32 := HI.out.len
      have Hnx := Lib.hid (repS_next (P := P) hlt)
      go_wp2_with fail
      obtain ⟨wo, rfl⟩ : ∃ wo : World, wo = wr := ⟨_, rfl⟩
      go_loopw [7, 20] (fun _ i wr => ∃ j : Nat, j ≤ (xat A k).length ∧ i = .int .i64 j ∧ St w.heap.size w wr [box 28 w.heap.size [.int .i64 P, .slice a A.length c], row 2 vc (iv (repS P A k j))]) (fun _ i _ => (xat A k).length - (intOf i).toNat)
      case atStart => exact ⟨0, by omega, rfl, hS⟩
      case round =>
        clear hS hc hrk
        obtain ⟨j, hj, rfl, hS⟩ := hrel
        by_cases hjt : j < (xat A k).length
        · have cb := ((hS.oldII hv).row k hlt).cell j hjt
          obtain ⟨x, hx, hxP⟩ := HI.out.nat hjt
          rw [hx] at cb
          have Hst := Lib.hid (repS_step HI.out hjt hx hxP)
          have cx := (hS.rdI 1 rfl).cell x (by rw [repS_len]; exact hxP)
          have ux := hS.unfrozen 1 rfl (j := x) (by rw [iv_len, repS_len]; exact hxP)
          have xx := hxc (x : Int) x rfl hxP
          have hbd := repS_bd (P := P) (j := j) hlt hDl hxP
          have HS9 := Lib.hid (hS.store 1 rfl (j := x) (by rw [iv_len, repS_len]; exact hxP) (.int .i64 (nth (repS P A k j) x + 1)))
          generalize hq : nth (repS P A k j) x = q at *
          clear hq hx
          go_wp2_with fail
          have hS9 := HS9.out
          simp only [List.set_cons_zero, List.set_cons_succ] at hS9
          rw [iv_set, Hst.out] at hS9
          go_roundw
          case rel => exact ⟨j + 1, by omega, by go_num, hS9⟩
          case measure => simp [intOf]; omega
        · obtain rfl : j = (xat A k).length := by omega
          rw [Hnx.out] at hS
          go_wp2_with fail
          go_roundw
          case rel => exact ⟨k + 1, by omega, by go_num, hS⟩
          case measure => simp [intOf]; omega
    · obtain rfl : k = A.length := by omega
      rw [repS_end] at hS
      go_wp2_with fail
      go_ret
      exact ⟨vc, rfl, hS.sub (List.sublist_cons_self _ _)⟩
end Go.Proofs.YtdgmaodnkbgolaaGreat
end

section
/- Walks: how often pairs of points occur in a design. -/
namespace Go.Proofs.YtdgmaodnkbgolaaGreat
set_option linter.unusedSimpArgs false
set_option linter.unusedVariables false
open Go.RowKit
attribute [local go_sem ↓] Go.wp_at_zero Go.wp_at_succ

def parC (b : List Int) (i j x y : Nat) : Prop := ((x : Int) ∈ b.take i ∧ (y : Int) ∈ b) ∨ ((x : Int) = nth b i ∧ (y : Int) ∈ (b.drop (i + 1)).take j)
open Classical in
noncomputable def parT (A : List (List Int)) (k i j x y : Nat) : Int := parF (A.take k) x y + if parC (xat A k) i j x y then 1 else 0
/-- the table behind k blocks, i points and j further points -/
structure PrM (P : Nat) (A : List (List Int)) (k i j : Nat) (M : List (List Int)) : Prop where
  sq : Sqr P M
  at' : ∀ x y, x < y → y < P → at2 M x y = parT A k i j x y
theorem parT_bd {A : List (List Int)} {k i j x y : Nat} (hA : A.length ≤ 128) : 0 ≤ parT A k i j x y ∧ parT A k i j x y ≤ 129 := by
  unfold parT parF
  have := cntD_bd (fun b => decide ((x : Int) ∈ b) && decide ((y : Int) ∈ b)) (A.take k)
  have hl : (A.take k).length ≤ 128 := by simp; omega
  split <;> omega
theorem nth_drop (b : List Int) (i j : Nat) : nth (b.drop i) j = nth b (i + j) := by simp [nth]
theorem Inc.fresh2 {P : Nat} {b : List Int} (h : Inc P b) {i j : Nat} (hj : i + j < b.length) : nth b (i + j) ∉ (b.drop i).take j := by
  intro hm
  obtain ⟨m, hm', he⟩ := List.getElem_of_mem hm
  have hmj : m < j := by simp at hm'; omega
  rw [List.getElem_take, List.getElem_drop, ← nth_eq (show i + m < b.length by omega)] at he
  have := h.lt (i + m) (i + j) (by omega) hj
  omega
theorem PrM.step {P : Nat} {A : List (List Int)} {k i j x y : Nat} {M : List (List Int)} (h : PrM P A k i j M) (hi : Inc P (xat A k)) (hj : i + 1 + j < (xat A k).length) (hx : nth (xat A k) i = x) (hy : nth (xat A k) (i + 1 + j) = y) :
    PrM P A k i (j + 1) (putS M x y (at2 M x y + 1)) := by
  have hxP : x < P := by have := (hi.bd i (by omega)).2; omega
  have hyP : y < P := by have := (hi.bd (i + 1 + j) hj).2; omega
  have hxy : x < y := by have := hi.lt i (i + 1 + j) (by omega) hj; omega
  have hd : nth ((xat A k).drop (i + 1)) j = y := by rw [nth_drop, hy]
  have hdl : j < ((xat A k).drop (i + 1)).length := by simp; omega
  refine ⟨putS_sqr h.sq hxP _ _, fun t u htu huP => ?_⟩
  rw [at2_putS h.sq hxP hyP]
  have hm := mem_take1 hdl (u : Int)
  rw [hd] at hm
  by_cases e : x = t ∧ y = u
  · obtain ⟨rfl, rfl⟩ := e
    rw [if_pos ⟨rfl, rfl⟩, h.at' x y hxy hyP]
    have c0 : ¬ parC (xat A k) i j x y := by
      rintro (⟨h1, _⟩ | ⟨_, h2⟩)
      · have := hi.fresh (show i < (xat A k).length by omega); rw [hx] at this; exact this h1
      · have := hi.fresh2 (i := i + 1) (j := j) hj; rw [hy] at this; exact this h2
    have c1 : parC (xat A k) i (j + 1) x y := .inr ⟨hx.symm, hm.2 (.inr rfl)⟩
    unfold parT
    rw [if_neg c0, if_pos c1]; omega
  · rw [if_neg e, h.at' t u htu huP]
    unfold parT
    have : parC (xat A k) i j t u ↔ parC (xat A k) i (j + 1) t u := by
      unfold parC
      rw [hm, hx]
      constructor
      · rintro (h1 | ⟨h1, h2⟩)
        · exact .inl h1
        · exact .inr ⟨h1, .inl h2⟩
      · rintro (h1 | ⟨h1, h2 | h2⟩)
        · exact .inl h1
        · exact .inr ⟨h1, h2⟩
        · exact absurd ⟨by omega, by omega⟩ e
    by_cases hc : parC (xat A k) i j t u
    · rw [if_pos hc, if_pos (this.1 hc)]
    · rw [if_neg hc, if_neg (fun h => hc (this.2 h))]
theorem PrM.next {P : Nat} {A : List (List Int)} {k i : Nat} {M : List (List Int)} (h : PrM P A k i ((xat A k).length - (i + 1)) M) (hi : Inc P (xat A k)) (hl : i < (xat A k).length) : PrM P A k (i + 1) 0 M := by
  refine ⟨h.sq, fun x y hxy hy => ?_⟩
  rw [h.at' x y hxy hy]
  unfold parT
  have : parC (xat A k) i ((xat A k).length - (i + 1)) x y ↔ parC (xat A k) (i + 1) 0 x y := by
    unfold parC
    rw [mem_take1 hl, List.take_zero, show ((xat A k).drop (i + 1)).take ((xat A k).length - (i + 1)) = (xat A k).drop (i + 1) from List.take_of_length_le (by simp)]
    constructor
    · rintro (⟨h1, h2⟩ | ⟨h1, h2⟩)
      · exact .inl ⟨.inl h1, h2⟩
      · exact .inl ⟨.inr h1, List.mem_of_mem_drop h2⟩
    · rintro (⟨h1 | h1, h2⟩ | ⟨_, h2⟩)
      · exact .inl ⟨h1, h2⟩
      · refine .inr ⟨h1, ?_⟩
        obtain ⟨m, hm, he⟩ := List.getElem_of_mem h2
        rw [← nth_eq hm] at he
        have him : i < m := by
          rcases Nat.lt_trichotomy i m with h3 | h3 | h3
          · exact h3
          · subst h3; omega
          · have := hi.lt m i h3 hl; omega
        rw [List.mem_iff_getElem]
        exact ⟨m - (i + 1), by simp; omega, by rw [List.getElem_drop, ← he, nth_eq hm]; congr 1; omega⟩
      · cases h2
  by_cases hc : parC (xat A k) i ((xat A k).length - (i + 1)) x y
  · rw [if_pos hc, if_pos (this.1 hc)]
  · rw [if_neg hc, if_neg (fun h => hc (this.2 h))]
theorem PrM.block {P : Nat} {A : List (List Int)} {k : Nat} {M : List (List Int)} (h : PrM P A k (xat A k).length 0 M) (hk : k < A.length) : PrM P A (k + 1) 0 0 M := by
  refine ⟨h.sq, fun x y hxy hy => ?_⟩
  rw [h.at' x y hxy hy]
  unfold parT
  have c1 : ¬ parC (xat A (k + 1)) 0 0 x y := by rintro (⟨h1, _⟩ | ⟨_, h1⟩) <;> cases h1
  have c0 : parC (xat A k) (xat A k).length 0 x y ↔ ((x : Int) ∈ xat A k ∧ (y : Int) ∈ xat A k) := by
    unfold parC
    rw [List.take_length, List.take_zero]
    constructor
    · rintro (h1 | ⟨_, h1⟩)
      · exact h1
      · cases h1
    · exact .inl
  rw [if_neg c1, take_xat hk]
  unfold parF
  rw [cntD_snoc]
  by_cases hc : (x : Int) ∈ xat A k ∧ (y : Int) ∈ xat A k
  · rw [if_pos (c0.2 hc), if_pos (by rw [decide_eq_true hc.1, decide_eq_true hc.2]; rfl)]; omega
  · rw [if_neg (fun h => hc (c0.1 h)), if_neg (by rw [Bool.and_eq_true, decide_eq_true_eq, decide_eq_true_eq]; exact hc)]; omega
theorem PrM.start (P : Nat) (A : List (List Int)) : PrM P A 0 0 0 (sqF P fun _ _ => 0) := by
  refine ⟨sqF_sqr _ _, fun x y hxy hy => ?_⟩
  rw [at2_sqF (by omega) hy]
  unfold parT
  have c1 : ¬ parC (xat A 0) 0 0 x y := by rintro (⟨h1, _⟩ | ⟨_, h1⟩) <;> cases h1
  rw [if_neg c1]; simp [parF, cntD]
theorem PrM.row {P : Nat} {A : List (List Int)} {M : List (List Int)} (h : PrM P A A.length 0 0 M) {x : Nat} (hx : x < P) : ((xat M x).take P).drop (x + 1) = parR P A x := by
  have hl := h.sq.row x hx
  apply List.ext_getElem
  · simp [parR, hl]
  · intro t h1 h2
    have ht : t < P - (x + 1) := by simpa [parR] using h2
    rw [List.getElem_drop, List.getElem_take, ← nth_eq (by rw [hl]; omega)]
    have := h.at' x (x + 1 + t) (by omega) (by omega)
    have c1 : ¬ parC (xat A A.length) 0 0 x (x + 1 + t) := by rintro (⟨h1, _⟩ | ⟨_, h1⟩) <;> cases h1
    unfold parT at this
    rw [if_neg c1, List.take_length] at this
    rw [show nth (xat M x) (x + 1 + t) = at2 M x (x + 1 + t) from rfl, this]
    simp [parR]
theorem St.nilrow4 {B : Nat} {w0 w : World} {L : List Ent} (h : St B w0 w L) (e : TypeId) : St B w0 w (L ++ [row e (.slice none 0 0) []]) :=
  h.add ⟨rfl, rfl, rfl, Nat.le_refl _, fun _ _ _ => rfl⟩ _ (.inr (.inl ⟨rfl, rfl, rfl⟩)) (fun k hk => by simp [bk, row] at hk)
/-- the numbers of the pairs of the first k points -/
def parK (P : Nat) (A : List (List Int)) (k : Nat) : List Int := ((List.range k).map (parR P A)).flatten
theorem parK_succ (P : Nat) (A : List (List Int)) (k : Nat) : parK P A (k + 1) = parK P A k ++ parR P A k := by
  rw [parK, List.range_succ, List.map_append, List.flatten_append]; simp [parK]
theorem parK_len (P : Nat) (A : List (List Int)) : ∀ k, (parK P A k).length ≤ k * P
  | 0 => Nat.zero_le _
  | k + 1 => by
    rw [parK_succ, List.length_append, Nat.succ_mul]
    have := parK_len P A k
    have : (parR P A k).length ≤ P := by simp [parR]
    omega
theorem parK_end (P : Nat) (A : List (List Int)) : parK P A P = parL P A := rfl

set_option maxHeartbeats 4000000 in
set_option maxRecDepth 100000 in
theorem pairCounts_c (P : Nat) (v : Value) (us : List Value) (A : List (List Int)) (w : World) (hv : RII w v us A) (hD : DOk P A) :
    Calls Tryz.prog 117 #[dv P v] w (MakesI w (parL P A)) := by
  obtain ⟨a, c, hsh⟩ := hv.1.sl.sh
  rw [hv.2.1] at hsh
  subst hsh
  have hP := hD.le
  have hDl := hD.len
  have HD := Lib.hid hD
  clear hD
  have hS1 := (St.refl w).newboxF 28 #[.int .i64 P, .slice a A.length c]
  have b0 := hS1.bcell 0 rfl 0 rfl
  have b1 := hS1.bcell 0 rfl 1 rfl
  have hix := hv.ix
  unfold dv
  go_enter Tryz.func117, Tryz.ntmps117
  go_wp2_with fail
  refine (emptySquare_c P _ (by omega)).mono ?_
  rintro e w2 ⟨vo, uo, rfl, hlo, h2⟩
  have hS2 := hS1.call h2
  have b1 := hS2.bcell 0 rfl 1 rfl
  have hS3 := hS2.perm (L' := own2 vo uo (sqF P fun _ _ => 0) ++ [box 28 w.heap.size [.int .i64 P, .slice a A.length c]]) List.perm_append_comm
  have hM := PrM.start P A
  have hlo' : uo.length = P := by rw [hlo, hM.sq.len]
  have Hlo := Lib.hid hlo'
  have hro := h2.rii hlo
  have hxo := hro.ixe
  have hlno := hro.len
  rw [hM.sq.len] at hxo hlno
  generalize (sqF P fun _ _ => (0 : Int)) = M0 at *
  have HM := Lib.hid hM
  clear hS1 hS2 h2 hlo hlo' hM b0 hro
  go_wp2_with fail
  go_loopw [5, 6, 7, 9, 19] (fun _ _ _ _ i wr => ∃ (k : Nat) (M : List (List Int)), k ≤ A.length ∧ i = .int .i64 k ∧ Hid (PrM P A k 0 0 M) ∧ St w.heap.size w wr (own2 vo uo M ++ [box 28 w.heap.size [.int .i64 P, .slice a A.length c]])) (fun _ _ _ _ i _ => A.length - (intOf i).toNat)
  case atStart => exact ⟨0, M0, by omega, rfl, HM, hS3⟩
  case round =>
    clear hS3 b1 HM
    obtain ⟨k, M, hk, rfl, hM, hS⟩ := hrel
    by_cases hlt : k < A.length
    · have hc := (hS.oldII hv).cell k hlt
      have hrk := (hS.oldII hv).row k hlt
      have hlk := hrk.len
      have hik := hrk.ix
      have HI := Lib.hid (HD.out.inc' hlt)
      have hl32 := HI.out.len
      go_wp2_with fail
      obtain ⟨wo, rfl⟩ : ∃ wo : World, wo = wr := ⟨_, rfl⟩
      go_loopw [6, 7, 9, 25] (fun _ _ _ m wr => ∃ (i : Nat) (M : List (List Int)), i ≤ (xat A k).length ∧ m = .int .i64 i ∧ Hid (PrM P A k i 0 M) ∧ St w.heap.size w wr (own2 vo uo M ++ [box 28 w.heap.size [.int .i64 P, .slice a A.length c]])) (fun _ _ _ m _ => (xat A k).length - (intOf m).toNat)
      case atStart => exact ⟨0, M, by omega, rfl, hM, hS⟩
      case round =>
        clear hS hc hrk hM
        obtain ⟨i, M, hi, rfl, hM, hS⟩ := hrel
        by_cases hil : i < (xat A k).length
        · have hrk := (hS.oldII hv).row k hlt
          have ci := hrk.cell i hil
          obtain ⟨x, hx, hxP⟩ := HI.out.nat hil
          rw [hx] at ci
          have hsl : ∀ W, (Instr.slice 48 (vat us k) (some (.int .i64 ((i : Int) + 1))) none none).run Tryz.prog W = .ok (rsl (vat us k) (i + 1) (xat A k).length) W := fun W => by
            have := rsl_lo hrk (i + 1) (by omega) W; rwa [show ((i + 1 : Nat) : Int) = (i : Int) + 1 by omega] at this
          have hsr := rsl_rd hrk (lo := i + 1) (hi := (xat A k).length) (by omega) (Nat.le_refl _)
          rw [List.take_length] at hsr
          have hsn := hsr.len
          have hsx := hsr.ix
          have hdl : ((xat A k).drop (i + 1)).length = (xat A k).length - (i + 1) := by simp
          rw [hdl] at hsn hsx
          have Hx := Lib.hid hx
          have Hsr := Lib.hid (fun W (hW : St w.heap.size w W (own2 vo uo M ++ [box 28 w.heap.size [.int .i64 P, .slice a A.length c]])) => hW)
          clear Hsr hsr hdl hx
          go_wp2_with fail
          obtain ⟨wq, rfl⟩ : ∃ wq : World, wq = wr := ⟨_, rfl⟩
          go_loopw [9, 35] (fun _ m wr => ∃ (j : Nat) (M : List (List Int)), j ≤ (xat A k).length - (i + 1) ∧ m = .int .i64 j ∧ Hid (PrM P A k i j M) ∧ St w.heap.size w wr (own2 vo uo M ++ [box 28 w.heap.size [.int .i64 P, .slice a A.length c]])) (fun _ m _ => (xat A k).length - (intOf m).toNat)
          case atStart => exact ⟨0, M, by omega, rfl, hM, hS⟩
          case round =>
            clear hS hM hrk ci
            obtain ⟨j, M, hj, rfl, hM, hS⟩ := hrel
            by_cases hjl : j < (xat A k).length - (i + 1)
            · have hrk := (hS.oldII hv).row k hlt
              have hsr := rsl_rd hrk (lo := i + 1) (hi := (xat A k).length) (by omega) (Nat.le_refl _)
              rw [List.take_length] at hsr
              have cj := hsr.cell j (by simp; omega)
              rw [nth_drop] at cj
              obtain ⟨y, hy, hyP⟩ := HI.out.nat (show i + 1 + j < (xat A k).length by omega)
              rw [hy] at cj
              have hst := Lib.hid (hM.out.step HI.out (by omega) Hx.out hy)
              have hMl := hM.out.sq.len
              have hMr := hM.out.sq.row x hxP
              have hlS : uo.length = M.length := by rw [Hlo.out, hMl]
              have hat := hS.at_row hlS (j := x) (by rw [hMl]; exact hxP)
              have hrx := hS.rdI (x + 1) hat
              have cx := (rii2 hS hlS).cell x (by rw [hMl]; exact hxP)
              have cxy : wr.cell? (el (vat uo x) y) = some (.int .i64 (at2 M x y)) := hrx.cell y (by rw [hMr]; exact hyP)
              have uxy := hS.unfrozen (x + 1) hat (j := y) (by rw [iv_len, hMr]; exact hyP)
              have xx := hxo (x : Int) x rfl hxP
              have xy := hrx.ixe (y : Int) y rfl (by rw [hMr]; exact hyP)
              have hbd : 0 ≤ at2 M x y ∧ at2 M x y ≤ 129 := by
                rw [hM.out.at' x y (by have := HI.out.lt i (i + 1 + j) (by omega) (by omega); have := Hx.out; omega) hyP]; exact parT_bd hDl
              have HS9 := Lib.hid (hS.store (x + 1) hat (j := y) (by rw [iv_len, hMr]; exact hyP) (.int .i64 (at2 M x y + 1)))
              have Hset := Lib.hid (own2_set (v := vo) (L2 := [box 28 w.heap.size [.int .i64 P, .slice a A.length c]]) hlS (j := x) (by rw [hMl]; exact hxP) ((xat M x).set y (at2 M x y + 1)))
              unfold putS at hst
              generalize at2 M x y = q at *
              clear hat hrx hlS hMl hMr hy hrk hsr hM hS
              go_wp2_with fail
              have hS9 := HS9.out
              rw [iv_set, Hset.out] at hS9
              go_roundw
              case rel => exact ⟨j + 1, _, by omega, by go_num, hst, hS9⟩
              case measure => simp [intOf]; omega
            · obtain rfl : j = (xat A k).length - (i + 1) := by omega
              have HN := Lib.hid (hM.out.next HI.out hil)
              go_wp2_with fail
              go_roundw
              case rel => exact ⟨i + 1, M, by omega, by go_num, HN, hS⟩
              case measure => simp [intOf]; omega
        · obtain rfl : i = (xat A k).length := by omega
          have HN := Lib.hid (hM.out.block hlt)
          go_wp2_with fail
          go_roundw
          case rel => exact ⟨k + 1, M, by omega, by go_num, HN, hS⟩
          case measure => simp [intOf]; omega
    · obtain rfl : k = A.length := by omega
      have hN0 := (hS.nilrow4 2).perm (L' := row 2 (.slice none 0 0) [] :: (own2 vo uo M ++ [box 28 w.heap.size [.int .i64 P, .slice a A.length c]])) (by (try simp only [own2, List.cons_append, List.nil_append, List.append_nil]); classical exact List.perm_iff_count.2 (fun a => by simp only [List.cons_append, List.nil_append, List.append_nil, List.count_append, List.count_cons, List.count_nil] <;> omega))
      have hMl := hM.out.sq.len
      have hMr := Lib.hid hM.out.sq.row
      have hlS := Lib.hid (show uo.length = M.length by rw [Hlo.out, hMl])
      clear hS
      go_wp2_with fail
      go_loopw [10, 11, 12, 53] (fun ct _ _ i wr => ∃ x : Nat, x ≤ P ∧ i = .int .i64 x ∧ St w.heap.size w wr (row 2 ct (iv (parK P A x)) :: (own2 vo uo M ++ [box 28 w.heap.size [.int .i64 P, .slice a A.length c]]))) (fun _ _ _ i _ => P - (intOf i).toNat)
      case atStart => exact ⟨0, by omega, rfl, hN0⟩
      case round =>
        clear hN0
        obtain ⟨x, hx, rfl, hS⟩ := hrel
        by_cases hxP : x < P
        · have hR := rii2 (hS.sub (List.sublist_cons_self _ _)) hlS.out
          have cx := hR.cell x (by rw [hMl]; exact hxP)
          have hrx := hR.row x (by rw [hMl]; exact hxP)
          have hxl := hMr.out x hxP
          have hsl : ∀ W, (Instr.slice 48 (vat uo x) (some (.int .i64 ((x : Int) + 1))) none none).run Tryz.prog W = .ok (rsl (vat uo x) (x + 1) (xat M x).length) W := fun W => by
            have := rsl_lo hrx (x + 1) (by rw [hxl]; omega) W; rwa [show ((x + 1 : Nat) : Int) = (x : Int) + 1 by omega] at this
          have hsr := rsl_rd hrx (lo := x + 1) (hi := (xat M x).length) (by rw [hxl]; omega) (Nat.le_refl _)
          rw [hxl] at hsl hsr
          rw [hM.out.row hxP] at hsr
          have Hsr := Lib.hid hsr
          have hpl := Lib.hid (show (parK P A x).length + (parR P A x).length < 100000 by
            have := parK_len P A x
            have h2 : x * P ≤ 32 * 32 := Nat.mul_le_mul (by omega) (by omega)
            have : (parR P A x).length ≤ P := by simp [parR]
            omega)
          clear hrx hR hsr hxl
          have xx := hxo (x : Int) x rfl hxP
          go_wp2_with (at_builtin; refine appsI hS 0 rfl _ _ Hsr.out (by have := hpl.out; omega) rfl _ _ rfl rfl rfl ?_; intro v2 w2 hS2)
          simp only [List.set_cons_zero] at hS2
          rw [← parK_succ] at hS2
          go_roundw
          case rel => exact ⟨x + 1, by omega, by go_num, hS2⟩
          case measure => simp [intOf]; omega
        · obtain rfl : x = P := by omega
          rw [parK_end] at hS
          go_wp2_with fail
          go_ret
          exact ⟨_, rfl, hS.sub (by simp)⟩
end Go.Proofs.YtdgmaodnkbgolaaGreat
end

section
/- Walks: the parameters of a balanced design. -/
namespace Go.Proofs.YtdgmaodnkbgolaaGreat
set_option linter.unusedSimpArgs false
set_option linter.unusedVariables false
open Go.RowKit
attribute [local go_sem ↓] Go.wp_at_zero Go.wp_at_succ

/-- parameters as a value -/
def pmV (xs : List Int) : Value := .agg #[.int .i64 (nth xs 0), .int .i64 (nth xs 1), .int .i64 (nth xs 2), .int .i64 (nth xs 3), .int .i64 (nth xs 4)]
def MakesPr (w : World) (xs : List Int) (b : Bool) (e : Ending) (w' : World) : Prop := e = .returned (.tuple #[pmV xs, .bool b]) ∧ St w.heap.size w w' []
theorem prmV_no {P : Nat} {A : List (List Int)} (h : prmB P A = false) : prmV P A = [0, 0, 0, 0, 0] := by unfold prmV; rw [if_neg (by rw [h]; decide)]
theorem MakesPr.no {w w' : World} {L : List Ent} {P : Nat} {A : List (List Int)} (h : prmB P A = false) (hS : St w.heap.size w w' L) :
    MakesPr w (prmV P A) (prmB P A) (.returned (.tuple #[.agg #[.int .i64 0, .int .i64 0, .int .i64 0, .int .i64 0, .int .i64 0], .bool false])) w' := by
  rw [prmV_no h, h]; exact ⟨rfl, hS.out⟩
theorem prm_no1 {P : Nat} {A : List (List Int)} (h : ¬ (2 ≤ P ∧ 0 < A.length ∧ 2 ≤ (xat A 0).length)) : prmB P A = false := by
  unfold prmB
  by_cases h1 : 2 ≤ P
  · by_cases h2 : 0 < A.length
    · have h3 : ¬ 2 ≤ (xat A 0).length := fun h3 => h ⟨h1, h2, h3⟩
      simp [h3]
    · simp [h2]
  · simp [h1]
theorem prm_no2 {P : Nat} {A : List (List Int)} {k : Nat} (hk : k < A.length) (h : (xat A k).length ≠ (xat A 0).length) : prmB P A = false := by
  unfold prmB
  have : (A.all fun b => b.length == (xat A 0).length) = false := by
    rw [Bool.eq_false_iff]; intro hh
    have := List.all_eq_true.1 hh _ (xat_mem hk)
    simp at this; exact h this
  rw [this]; simp
theorem prm_no3 {P : Nat} {A : List (List Int)} {k : Nat} (hk : k < (parL P A).length) (h : nth (parL P A) k ≠ nth (parL P A) 0) : prmB P A = false := by
  unfold prmB
  have : ((parL P A).all fun c => c == nth (parL P A) 0) = false := by
    rw [Bool.eq_false_iff]; intro hh
    have := List.all_eq_true.1 hh _ (nth_mem hk)
    simp at this; exact h this
  rw [this]; simp
theorem prm_yes {P : Nat} {A : List (List Int)} (h1 : 2 ≤ P ∧ 0 < A.length ∧ 2 ≤ (xat A 0).length) (h2 : ∀ k, k < A.length → (xat A k).length = (xat A 0).length) (h3 : ∀ k, k < (parL P A).length → nth (parL P A) k = nth (parL P A) 0) : prmB P A = true := by
  unfold prmB
  have e1 : (A.all fun b => b.length == (xat A 0).length) = true := List.all_eq_true.2 fun b hb => by
    obtain ⟨k, hk, rfl⟩ := List.getElem_of_mem hb
    have := h2 k hk
    rw [xat_eq hk] at this; simp [this]
  have e2 : ((parL P A).all fun c => c == nth (parL P A) 0) = true := List.all_eq_true.2 fun b hb => by
    obtain ⟨k, hk, rfl⟩ := List.getElem_of_mem hb
    have := h3 k hk
    rw [nth_eq hk] at this; simp [this]
  rw [e1, e2]; simp [h1]
theorem prm_val {P : Nat} {A : List (List Int)} (h : prmB P A = true) : prmV P A = [(P : Int), (A.length : Int), nth (repL P A) 0, ((xat A 0).length : Int), nth (parL P A) 0] := by unfold prmV; rw [if_pos h]
theorem parL_pos {P : Nat} {A : List (List Int)} (h : 2 ≤ P) : 0 < (parL P A).length := by
  rw [← parK_end, show P = (P - 1) + 1 by omega]
  have : ∀ k, 0 < k → 0 < (parK (P - 1 + 1) A k).length := by
    intro k hk
    induction k with
    | zero => omega
    | succ k ih =>
      rw [parK_succ, List.length_append]
      rcases Nat.eq_zero_or_pos k with rfl | h0
      · simp [parR]; omega
      · have := ih h0; omega
  exact this _ (by omega)
theorem repL_len (P : Nat) (A : List (List Int)) : (repL P A).length = P := by simp [repL]

set_option maxHeartbeats 8000000 in
set_option maxRecDepth 100000 in
theorem parametersOf_c (P : Nat) (v : Value) (us : List Value) (A : List (List Int)) (w : World) (hv : RII w v us A) (hD : DOk P A) :
    Calls Tryz.prog 73 #[dv P v] w (MakesPr w (prmV P A) (prmB P A)) := by
  obtain ⟨a, c, hsh⟩ := hv.1.sl.sh
  rw [hv.2.1] at hsh
  subst hsh
  have hP := hD.le
  have hDl := hD.len
  have HD := Lib.hid hD
  clear hD
  have hS1 := ((St.refl w).newboxF 28 #[.int .i64 P, .slice a A.length c]).newboxF 105 #[.int .i64 0, .int .i64 0, .int .i64 0, .int .i64 0, .int .i64 0]
  simp only [World.size_alloc] at hS1
  have b0 := hS1.bcell 1 rfl 0 rfl
  have b1 := hS1.bcell 1 rfl 1 rfl
  have hix := hv.ix
  have f0 := hS1.bfree 0 rfl
  have r0 := hS1.bcell 0 rfl 0 rfl
  have r1 := hS1.bcell 0 rfl 1 rfl
  have r2 := hS1.bcell 0 rfl 2 rfl
  have r3 := hS1.bcell 0 rfl 3 rfl
  have r4 := hS1.bcell 0 rfl 4 rfl
  unfold dv
  by_cases h1 : 2 ≤ P
  · by_cases h2 : 0 < A.length
    · have fz := eq_f (show ¬ (A.length : Int) = 0 by omega)
      have cz := (hS1.oldII hv).cell 0 h2
      have hl0 := (hv.row 0 h2).len
      by_cases h3 : 2 ≤ (xat A 0).length
      · have HPC := Lib.hid (pairCounts_c P (.slice a A.length c) us A _ (hS1.oldII hv) HD.out)
        have hC0 := parL_pos (A := A) h1
        have H1 := Lib.hid (And.intro h1 (And.intro h2 h3))
        have h3' : ¬ ((xat A 0).length : Int) < 2 := by omega
        have h1' : ¬ (P : Int) < 2 := by omega
        have x0 := hv.ixe 0 0 rfl h2
        have HR := fun W h => Lib.hid (replicationsOf_c P (.slice a A.length c) us A W h HD.out)
        have hprm := Lib.hid (fun h h' => prm_val (prm_yes (A := A) H1.out h h'))
        have hprb := Lib.hid (fun h h' => prm_yes (A := A) H1.out h h')
        unfold dv at HPC HR
        go_enter Tryz.func73, Tryz.ntmps73
        go_wp2_with fail
        refine HPC.out.mono ?_
        clear HPC r0 r1 r2 r3 r4 f0 b0 b1 cz
        rintro e w2 ⟨vc, rfl, h4⟩
        have hS2 := hS1.call h4
        have b1 := hS2.bcell 1 rfl 1 rfl
        have hlc := (h4.rdI 0 rfl).len
        have hic := (h4.rdI 0 rfl).ix
        have xc0 := (h4.rdI 0 rfl).ixe 0 0 rfl hC0
        have hCle : (parL P A).length ≤ 1024 := by
          have := parK_len P A P
          have h2 : P * P ≤ 32 * 32 := Nat.mul_le_mul (by omega) (by omega)
          rw [parK_end] at this; omega
        have HN2 := Lib.hid (fun k (hk : k < A.length) (h : (xat A k).length ≠ (xat A 0).length) => prm_no2 (P := P) hk h)
        have HN3 := Lib.hid (fun k (hk : k < (parL P A).length) (h : nth (parL P A) k ≠ nth (parL P A) 0) => prm_no3 hk h)
        generalize parL P A = C at *
        clear hS1 h4
        simp only [List.cons_append, List.nil_append] at hS2
        go_wp2_with fail
        go_loopw [6, 32] (fun _ i wr => ∃ k : Nat, k ≤ A.length ∧ i = .int .i64 k ∧ Hid (∀ j, j < k → (xat A j).length = (xat A 0).length) ∧ St w.heap.size w wr [box 105 (w.heap.size + 1) [.int .i64 0, .int .i64 0, .int .i64 0, .int .i64 0, .int .i64 0], box 28 w.heap.size [.int .i64 P, .slice a A.length c], row 2 vc (iv C)]) (fun _ i _ => A.length - (intOf i).toNat)
        case atStart => exact ⟨0, by omega, rfl, fun j hj => by omega, hS2⟩
        case round =>
          clear hS2 b1
          obtain ⟨k, hk, rfl, hI, hS⟩ := hrel
          have b1 := hS.bcell 1 rfl 1 rfl
          by_cases hlt : k < A.length
          · have ck := (hS.oldII hv).cell k hlt
            have cz := (hS.oldII hv).cell 0 h2
            have hlk := (hv.row k hlt).len
            by_cases he : (xat A k).length = (xat A 0).length
            · have f := ne_f (show ((xat A k).length : Int) = (xat A 0).length by omega)
              have He := Lib.hid he
              clear he
              go_wp2_with fail
              go_roundw
              case rel => exact ⟨k + 1, by omega, by go_num, fun j hj => by
                by_cases e : j = k
                · rw [e]; exact He.out
                · exact hI.out j (by omega), hS⟩
              case measure => simp [intOf]; omega
            · have f := ne_t (fun e : ((xat A k).length : Int) = (xat A 0).length => he (by omega))
              have HN := Lib.hid (HN2.out k hlt he)
              clear he
              have r0 := hS.bcell 0 rfl 0 rfl
              have r1 := hS.bcell 0 rfl 1 rfl
              have r2 := hS.bcell 0 rfl 2 rfl
              have r3 := hS.bcell 0 rfl 3 rfl
              have r4 := hS.bcell 0 rfl 4 rfl
              have f0 := hS.bfree 0 rfl
              have hZ := ((((hS.bstore 0 rfl 0 (.int .i64 0)).bstore 0 rfl 1 (.int .i64 0)).bstore 0 rfl 2 (.int .i64 0)).bstore 0 rfl 3 (.int .i64 0)).bstore 0 rfl 4 (.int .i64 0)
              have z0 := hZ.bcell 0 rfl 0 rfl
              have z1 := hZ.bcell 0 rfl 1 rfl
              have z2 := hZ.bcell 0 rfl 2 rfl
              have z3 := hZ.bcell 0 rfl 3 rfl
              have z4 := hZ.bcell 0 rfl 4 rfl
              go_wp2_with fail
              refine bodyPost_ret (v := .tuple #[.agg #[.int .i64 0, .int .i64 0, .int .i64 0, .int .i64 0, .int .i64 0], .bool false]) (by simp [results, Tryz.results73, go_sem, z0, z1, z2, z3, z4]) rfl ?_
              exact MakesPr.no HN.out hZ
          · obtain rfl : k = A.length := by omega
            have hall := hI
            clear hI
            go_wp2_with fail
            go_loopw [8, 48] (fun _ i wr => ∃ k : Nat, k ≤ C.length ∧ i = .int .i64 k ∧ Hid (∀ j, j < k → nth C j = nth C 0) ∧ St w.heap.size w wr [box 105 (w.heap.size + 1) [.int .i64 0, .int .i64 0, .int .i64 0, .int .i64 0, .int .i64 0], box 28 w.heap.size [.int .i64 P, .slice a A.length c], row 2 vc (iv C)]) (fun _ i _ => C.length - (intOf i).toNat)
            case atStart => exact ⟨0, by omega, rfl, fun j hj => by omega, hS⟩
            case round =>
              clear hS b1
              obtain ⟨k, hk, rfl, hI, hS⟩ := hrel
              by_cases hlt : k < C.length
              · have ck := (hS.rdI 2 rfl).cell k hlt
                have cz := (hS.rdI 2 rfl).cell 0 hC0
                by_cases he : nth C k = nth C 0
                · have f := ne_f he
                  have He := Lib.hid he
                  clear he
                  go_wp2_with fail
                  go_roundw
                  case rel => exact ⟨k + 1, by omega, by go_num, fun j hj => by
                    by_cases e : j = k
                    · rw [e]; exact He.out
                    · exact hI.out j (by omega), hS⟩
                  case measure => simp [intOf]; omega
                · have f := ne_t he
                  have HN := Lib.hid (HN3.out k hlt he)
                  clear he
                  have r0 := hS.bcell 0 rfl 0 rfl
                  have r1 := hS.bcell 0 rfl 1 rfl
                  have r2 := hS.bcell 0 rfl 2 rfl
                  have r3 := hS.bcell 0 rfl 3 rfl
                  have r4 := hS.bcell 0 rfl 4 rfl
                  have f0 := hS.bfree 0 rfl
                  have hZ := ((((hS.bstore 0 rfl 0 (.int .i64 0)).bstore 0 rfl 1 (.int .i64 0)).bstore 0 rfl 2 (.int .i64 0)).bstore 0 rfl 3 (.int .i64 0)).bstore 0 rfl 4 (.int .i64 0)
                  have z0 := hZ.bcell 0 rfl 0 rfl
                  have z1 := hZ.bcell 0 rfl 1 rfl
                  have z2 := hZ.bcell 0 rfl 2 rfl
                  have z3 := hZ.bcell 0 rfl 3 rfl
                  have z4 := hZ.bcell 0 rfl 4 rfl
                  go_wp2_with fail
                  refine bodyPost_ret (v := .tuple #[.agg #[.int .i64 0, .int .i64 0, .int .i64 0, .int .i64 0, .int .i64 0], .bool false]) (by simp [results, Tryz.results73, go_sem, z0, z1, z2, z3, z4]) rfl ?_
                  exact MakesPr.no HN.out hZ
              · obtain rfl : k = C.length := by omega
                have HV := Lib.hid (hprm.out hall.out hI.out)
                have HB := Lib.hid (hprb.out hall.out hI.out)
                have b0 := hS.bcell 1 rfl 0 rfl
                have b1 := hS.bcell 1 rfl 1 rfl
                have cz := (hS.oldII hv).cell 0 h2
                have c0 := (hS.rdI 2 rfl).cell 0 hC0
                have hS3 := hS.drew
                clear hI hprm hprb HN2 HN3
                go_wp2_with fail
                refine regionG (fun w' => w'.cell? ⟨w.heap.size, 0, none⟩ = some (.int .i64 P) ∧ w'.cell? ⟨w.heap.size, 1, none⟩ = some (.slice a A.length c) ∧ w'.cell? (el (.slice a A.length c) 0) = some (vat us 0) ∧ w'.cell? (el vc 0) = some (.int .i64 (nth C 0))) 18 (by kernel_rfl) ⟨cell_dr b0, cell_dr b1, cell_dr cz, cell_dr c0⟩ (fun hHeld => ?_)
                refine takeP (i := 0) (v := ?_) rfl (by kernel_rfl) (fun _ _ _ h => h) (by rfl) ?_ (by assumption) ?_
                case refine_2 => (intro w'; go_simp; first | done | with_reducible rfl)
                try simp only [Act.put, List.setIfInBounds_toArray, List.set_cons_zero, List.set_cons_succ]
                refine takeH (i := 1) [17] (v := ?_) rfl (by kernel_rfl) (fun _ _ _ h => h) (by rfl) ?_ (by assumption) ?_
                case refine_2 => (intro w' hSw; (try dsimp only at hSw); go_simp; first | done | with_reducible rfl)
                try simp only [Act.put, List.setIfInBounds_toArray, List.set_cons_zero, List.set_cons_succ]
                refine takeP (i := 2) (v := ?_) rfl (by kernel_rfl) (fun _ _ _ h => h) (by rfl) ?_ (by assumption) ?_
                case refine_2 => (intro w'; go_simp; first | done | with_reducible rfl)
                try simp only [Act.put, List.setIfInBounds_toArray, List.set_cons_zero, List.set_cons_succ]
                refine takeH (i := 3) [4, 17] (v := ?_) rfl (by kernel_rfl) (fun _ _ _ h => h) (by rfl) ?_ (by assumption) ?_
                case refine_2 => (intro w' hSw; (try dsimp only at hSw); go_simp; first | done | with_reducible rfl)
                try simp only [Act.put, List.setIfInBounds_toArray, List.set_cons_zero, List.set_cons_succ]
                refine takeH (i := 5) [6, 7, 8, 17] (v := ?_) rfl (by kernel_rfl) (fun _ _ _ h => h) (by rfl) ?_ (by assumption) ?_
                case refine_2 => (intro w' hSw; (try dsimp only at hSw); go_simp; first | done | with_reducible rfl)
                try simp only [Act.put, List.setIfInBounds_toArray, List.set_cons_zero, List.set_cons_succ]
                refine takeP (i := 9) (v := ?_) rfl (by kernel_rfl) (fun _ _ _ h => h) (by rfl) ?_ (by assumption) ?_
                case refine_2 => (intro w'; go_simp; first | done | with_reducible rfl)
                try simp only [Act.put, List.setIfInBounds_toArray, List.set_cons_zero, List.set_cons_succ]
                refine takeH (i := 10) [11, 12, 13, 17] (v := ?_) rfl (by kernel_rfl) (fun _ _ _ h => h) (by rfl) ?_ (by assumption) ?_
                case refine_2 => (intro w' hSw; (try dsimp only at hSw); go_simp; first | done | with_reducible rfl)
                try simp only [Act.put, List.setIfInBounds_toArray, List.set_cons_zero, List.set_cons_succ]
                refine takeP (i := 11) (v := ?_) rfl (by kernel_rfl) (fun _ _ _ h => h) (by rfl) ?_ (by assumption) ?_
                case refine_2 => (intro w'; go_simp; first | done | with_reducible rfl)
                try simp only [Act.put, List.setIfInBounds_toArray, List.set_cons_zero, List.set_cons_succ]
                refine takeH (i := 12) [13, 17] (v := ?_) rfl (by kernel_rfl) (fun _ _ _ h => h) (by rfl) ?_ (by assumption) ?_
                case refine_2 => (intro w' hSw; (try dsimp only at hSw); go_simp; first | done | with_reducible rfl)
                try simp only [Act.put, List.setIfInBounds_toArray, List.set_cons_zero, List.set_cons_succ]
                refine takeP (i := 14) (v := ?_) rfl (by kernel_rfl) (fun _ _ _ h => h) (by rfl) ?_ (by assumption) ?_
                case refine_2 => (intro w'; go_simp; first | done | with_reducible rfl)
                try simp only [Act.put, List.setIfInBounds_toArray, List.set_cons_zero, List.set_cons_succ]
                refine takeP (i := 15) (v := ?_) rfl (by kernel_rfl) (fun _ _ _ h => h) (by rfl) ?_ (by assumption) ?_
                case refine_2 => (intro w'; go_simp; first | done | with_reducible rfl)
                try simp only [Act.put, List.setIfInBounds_toArray, List.set_cons_zero, List.set_cons_succ]
                refine takeH (i := 16) [17] (v := ?_) rfl (by kernel_rfl) (fun _ _ _ h => h) (by rfl) ?_ (by assumption) ?_
                case refine_2 => (intro w' hSw; (try dsimp only at hSw); go_simp; first | done | with_reducible rfl)
                try simp only [Act.put, List.setIfInBounds_toArray, List.set_cons_zero, List.set_cons_succ]
                refine readyG (rs := [4]) (by kernel_rfl) (by simp) ?_
                refine AllG.cons rfl (fun K hK => ?_) AllG.nil
                go_simp
                refine (szII_c _ us A _ (hS3.oldII hv)).mono ?_
                rintro e w4 ⟨rfl, rfl⟩
                refine hK.out _ _ ⟨cell_dr b0, cell_dr b1, cell_dr cz, cell_dr c0⟩ (fun hHeld => ?_)
                clear hK K
                try simp only [Act.put, List.setIfInBounds_toArray, List.set_cons_zero, List.set_cons_succ]
                refine readyG (rs := [6]) (by kernel_rfl) (by simp) ?_
                refine AllG.cons rfl (fun K hK => ?_) AllG.nil
                go_simp
                refine (HR _ (hS3.oldII hv)).out.mono ?_
                rintro e w5 ⟨vr, rfl, h5⟩
                have hS5 := hS3.call h5
                have e0 := hS5.bcell 1 rfl 0 rfl
                have e1 := hS5.bcell 1 rfl 1 rfl
                have ez := (hS5.oldII hv).cell 0 h2
                have ec := (hS5.rdI 2 rfl).cell 0 hC0
                have xr0 := (h5.rdI 0 rfl).ixe 0 0 rfl (by rw [repL_len]; omega)
                have cr0 := (h5.rdI 0 rfl).cell 0 (by rw [repL_len]; omega)
                have rz := Lib.hid ((hS5.oldII hv).row 0 h2)
                have hS6 := Lib.hid hS5
                refine hK.out _ _ ⟨e0, e1, ez, ec⟩ (fun hHeld => ?_)
                clear hK K h5 hS3 hS b0 b1 cz c0
                try simp only [Act.put, List.setIfInBounds_toArray, List.set_cons_zero, List.set_cons_succ]
                refine takeP (i := 7) (v := ?_) rfl (by kernel_rfl) (fun _ _ _ h => h) (by rfl) ?_ (by assumption) ?_
                case refine_2 => (intro w'; go_simp; first | done | with_reducible rfl)
                try simp only [Act.put, List.setIfInBounds_toArray, List.set_cons_zero, List.set_cons_succ]
                refine readyG (rs := [8, 13]) (by kernel_rfl) (by simp) ?_
                refine AllG.cons rfl (fun K hK => ?_) (AllG.cons rfl (fun K hK => ?_) AllG.nil)
                · go_simp
                  refine hK.out _ _ ⟨e0, e1, ez, ec⟩ (fun hHeld => ?_)
                  clear hK K
                  try simp only [Act.put, List.setIfInBounds_toArray, List.set_cons_zero, List.set_cons_succ]
                  refine readyG (rs := [13]) (by kernel_rfl) (by simp) ?_
                  refine AllG.cons rfl (fun K hK => ?_) AllG.nil
                  go_simp
                  refine (size_c _ _ _ rz.out).mono ?_
                  rintro e w6 ⟨rfl, rfl⟩
                  refine hK.out _ _ ⟨e0, e1, ez, ec⟩ (fun hHeld => ?_)
                  clear hK K
                  try simp only [Act.put, List.setIfInBounds_toArray, List.set_cons_zero, List.set_cons_succ]
                  have t0 := hS5.bcell 0 rfl 0 rfl
                  have t1 := hS5.bcell 0 rfl 1 rfl
                  have t2 := hS5.bcell 0 rfl 2 rfl
                  have t3 := hS5.bcell 0 rfl 3 rfl
                  have t4 := hS5.bcell 0 rfl 4 rfl
                  have f0 := hS5.bfree 0 rfl
                  refine takeP (i := 17) (v := ?_) rfl (by kernel_rfl) (fun _ _ _ h => h) (by rfl) ?_ (by assumption) ?_
                  case refine_2 => (intro w'; go_simp; first | done | with_reducible rfl)
                  try simp only [Act.put, List.setIfInBounds_toArray, List.set_cons_zero, List.set_cons_succ]
                  refine readyG (rs := [18]) (by kernel_rfl) (by simp) ?_
                  refine AllG.last rfl (by kernel_rfl) (fun K hK => ?_) AllG.nil
                  go_simp
                  refine hK.out _ _ ?_
                  clear hK K
                  try simp only [Act.put, List.setIfInBounds_toArray, List.set_cons_zero, List.set_cons_succ]
                  refine readyG (rs := [19]) (by kernel_rfl) (by simp) ?_
                  refine AllG.last rfl (by kernel_rfl) (fun K hK => ?_) AllG.nil
                  go_simp
                  refine hK.out _ _ ?_
                  clear hK K
                  try simp only [Act.put, List.setIfInBounds_toArray, List.set_cons_zero, List.set_cons_succ]
                  refine doneG (by kernel_rfl) ?_ _
                  refine NoPanic.normal ?_
                  have hZ := ((((hS6.out.bstore 0 rfl 0 (.int .i64 P)).bstore 0 rfl 1 (.int .i64 A.length)).bstore 0 rfl 2 (.int .i64 (nth (repL P A) 0))).bstore 0 rfl 3 (.int .i64 (xat A 0).length)).bstore 0 rfl 4 (.int .i64 (nth C 0))
                  have z0 := hZ.bcell 0 rfl 0 rfl
                  have z1 := hZ.bcell 0 rfl 1 rfl
                  have z2 := hZ.bcell 0 rfl 2 rfl
                  have z3 := hZ.bcell 0 rfl 3 rfl
                  have z4 := hZ.bcell 0 rfl 4 rfl
                  clear hS5 t0 t1 t2 t3 t4
                  go_wp2_with fail
                  refine bodyPost_ret (v := .tuple #[.agg #[.int .i64 P, .int .i64 A.length, .int .i64 (nth (repL P A) 0), .int .i64 (xat A 0).length, .int .i64 (nth C 0)], .bool true]) (by simp [results, Tryz.results73, go_sem, z0, z1, z2, z3, z4]) rfl ?_
                  rw [HB.out, HV.out]
                  exact ⟨rfl, hZ.out⟩
                · go_simp
                  refine (size_c _ _ _ rz.out).mono ?_
                  rintro e w6 ⟨rfl, rfl⟩
                  refine hK.out _ _ ⟨e0, e1, ez, ec⟩ (fun hHeld => ?_)
                  clear hK K
                  try simp only [Act.put, List.setIfInBounds_toArray, List.set_cons_zero, List.set_cons_succ]
                  refine readyG (rs := [8]) (by kernel_rfl) (by simp) ?_
                  refine AllG.cons rfl (fun K hK => ?_) AllG.nil
                  go_simp
                  refine hK.out _ _ ⟨e0, e1, ez, ec⟩ (fun hHeld => ?_)
                  clear hK K
                  try simp only [Act.put, List.setIfInBounds_toArray, List.set_cons_zero, List.set_cons_succ]
                  have t0 := hS5.bcell 0 rfl 0 rfl
                  have t1 := hS5.bcell 0 rfl 1 rfl
                  have t2 := hS5.bcell 0 rfl 2 rfl
                  have t3 := hS5.bcell 0 rfl 3 rfl
                  have t4 := hS5.bcell 0 rfl 4 rfl
                  have f0 := hS5.bfree 0 rfl
                  refine takeP (i := 17) (v := ?_) rfl (by kernel_rfl) (fun _ _ _ h => h) (by rfl) ?_ (by assumption) ?_
                  case refine_2 => (intro w'; go_simp; first | done | with_reducible rfl)
                  try simp only [Act.put, List.setIfInBounds_toArray, List.set_cons_zero, List.set_cons_succ]
                  refine readyG (rs := [18]) (by kernel_rfl) (by simp) ?_
                  refine AllG.last rfl (by kernel_rfl) (fun K hK => ?_) AllG.nil
                  go_simp
                  refine hK.out _ _ ?_
                  clear hK K
                  try simp only [Act.put, List.setIfInBounds_toArray, List.set_cons_zero, List.set_cons_succ]
                  refine readyG (rs := [19]) (by kernel_rfl) (by simp) ?_
                  refine AllG.last rfl (by kernel_rfl) (fun K hK => ?_) AllG.nil
                  go_simp
                  refine hK.out _ _ ?_
                  clear hK K
                  try simp only [Act.put, List.setIfInBounds_toArray, List.set_cons_zero, List.set_cons_succ]
                  refine doneG (by kernel_rfl) ?_ _
                  refine NoPanic.normal ?_
                  have hZ := ((((hS6.out.bstore 0 rfl 0 (.int .i64 P)).bstore 0 rfl 1 (.int .i64 A.length)).bstore 0 rfl 2 (.int .i64 (nth (repL P A) 0))).bstore 0 rfl 3 (.int .i64 (xat A 0).length)).bstore 0 rfl 4 (.int .i64 (nth C 0))
                  have z0 := hZ.bcell 0 rfl 0 rfl
                  have z1 := hZ.bcell 0 rfl 1 rfl
                  have z2 := hZ.bcell 0 rfl 2 rfl
                  have z3 := hZ.bcell 0 rfl 3 rfl
                  have z4 := hZ.bcell 0 rfl 4 rfl
                  clear hS5 t0 t1 t2 t3 t4
                  go_wp2_with fail
                  refine bodyPost_ret (v := .tuple #[.agg #[.int .i64 P, .int .i64 A.length, .int .i64 (nth (repL P A) 0), .int .i64 (xat A 0).length, .int .i64 (nth C 0)], .bool true]) (by simp [results, Tryz.results73, go_sem, z0, z1, z2, z3, z4]) rfl ?_
                  rw [HB.out, HV.out]
                  exact ⟨rfl, hZ.out⟩
      · have H := Lib.hid (prm_no1 (P := P) (A := A) (fun h => h3 h.2.2))
        go_enter Tryz.func73, Tryz.ntmps73
        go_wp2_with fail
        refine bodyPost_ret (v := .tuple #[.agg #[.int .i64 0, .int .i64 0, .int .i64 0, .int .i64 0, .int .i64 0], .bool false]) (by simp [results, Tryz.results73, go_sem, r0, r1, r2, r3, r4]) rfl ?_
        exact MakesPr.no H.out hS1
    · have H := Lib.hid (prm_no1 (P := P) (A := A) (fun h => h2 h.2.1))
      have f := eq_t (show (A.length : Int) = 0 by omega)
      have h1' : ¬ (P : Int) < 2 := by omega
      have H0 := Lib.hid (show A.length = 0 by omega)
      clear h2
      go_enter Tryz.func73, Tryz.ntmps73
      go_wp2_with fail
      refine bodyPost_ret (v := .tuple #[.agg #[.int .i64 0, .int .i64 0, .int .i64 0, .int .i64 0, .int .i64 0], .bool false]) (by simp [results, Tryz.results73, go_sem, r0, r1, r2, r3, r4]) rfl ?_
      first
      | exact MakesPr.no H.out hS1
      | (rw [H0.out] at hS1; exact MakesPr.no H.out hS1)
  · have H := Lib.hid (prm_no1 (P := P) (A := A) (fun h => h1 h.1))
    have h1' : (P : Int) < 2 := by omega
    go_enter Tryz.func73, Tryz.ntmps73
    go_wp2_with fail
    refine bodyPost_ret (v := .tuple #[.agg #[.int .i64 0, .int .i64 0, .int .i64 0, .int .i64 0, .int .i64 0], .bool false]) (by simp [results, Tryz.results73, go_sem, r0, r1, r2, r3, r4]) rfl ?_
    exact MakesPr.no H.out hS1
end Go.Proofs.YtdgmaodnkbgolaaGreat
end

section
/- Walks: ParametersOf of the program; replications, pairs and parameters of the reference. -/
namespace Go.Proofs.YtdgmaodnkbgolaaGreat
set_option linter.unusedSimpArgs false
set_option linter.unusedVariables false
open Go.RowKit
attribute [local go_sem ↓] Go.wp_at_zero Go.wp_at_succ
def z5 (g : Nat) : Ent := box 105 g [.int .i64 0, .int .i64 0, .int .i64 0, .int .i64 0, .int .i64 0]
end Go.Proofs.YtdgmaodnkbgolaaGreat
end
