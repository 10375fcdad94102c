/- The texts of this claim, run 8: PTs PTs5 PTs6 PPa PPb F5 PTs7 Tr11 Tr13. -/
import Derived.Test.YtegmjlblehjccaaGreatK4
import Derived.Test.YtegmjlblehjccaaGreatK5
import Derived.Test.YtegmjlblehjccaaGreatK6
import Derived.Test.YtegmjlblehjccaaGreatK7

section
/- Plain: triple systems. -/
namespace Go.Proofs.YtegmjlblehjccaaGreat
set_option linter.unusedSimpArgs false
set_option linter.unusedVariables false
open Go

/-- exactly one of the list -/
theorem cnt_one {p : List Int → Bool} : ∀ {A : List (List Int)}, cntD p A = 1 → ∃ i, i < A.length ∧ p (xat A i) = true ∧ ∀ j, j < A.length → p (xat A j) = true → j = i
  | [], h => by simp [cntD] at h
  | b :: A, h => by
    unfold cntD at h
    cases hb : p b
    · rw [List.filter_cons_of_neg (by rw [hb]; decide)] at h
      obtain ⟨i, hi, h1, h2⟩ := cnt_one (A := A) (by unfold cntD; exact h)
      refine ⟨i + 1, by simp; omega, h1, fun j hj hp => ?_⟩
      cases j with
      | zero => exact absurd hp (by show ¬ p b = true; rw [hb]; decide)
      | succ j => rw [h2 j (by simp at hj; omega) hp]
    · rw [List.filter_cons_of_pos hb] at h
      have h0 : (A.filter p).length = 0 := by simp only [List.length_cons] at h; omega
      have hz : A.filter p = [] := List.eq_nil_of_length_eq_zero h0
      refine ⟨0, by simp, hb, fun j hj hp => ?_⟩
      cases j with
      | zero => rfl
      | succ j =>
        have hj' : j < A.length := by simp at hj; omega
        have hm : xat A j ∈ A.filter p := List.mem_filter.2 ⟨xat_mem hj', hp⟩
        rw [hz] at hm; simp at hm
/-- a triple system -/
structure TS (P : Nat) (A : List (List Int)) : Prop where
  p3 : 3 ≤ P
  ok : dOk P A = true
  three : ∀ b ∈ A, b.length = 3
  par : ∀ x y, x < y → y < P → parF A x y = 1
section
variable {P : Nat} {A : List (List Int)}
theorem TS.p32 (h : TS P A) : P ≤ 32 := by have := (dOk_t h.ok).le; omega
theorem TS.inc (h : TS P A) {b : List Int} (hb : b ∈ A) : Inc P b := inc_of ((dOk_t h.ok).inc b hb)
theorem TS.par' (h : TS P A) {x y : Nat} (hx : x < P) (hy : y < P) (hne : x ≠ y) : parF A x y = 1 := by
  rcases Nat.lt_or_gt_of_ne hne with h1 | h1
  · exact h.par x y h1 hy
  · rw [parF_symm]; exact h.par y x h1 hx
/-- two points lie on one block -/
theorem TS.one (h : TS P A) {x y : Nat} (hx : x < P) (hy : y < P) (hne : x ≠ y) : ∃ i, i < A.length ∧ ((x : Int) ∈ xat A i ∧ (y : Int) ∈ xat A i) ∧ ∀ j, j < A.length → (x : Int) ∈ xat A j → (y : Int) ∈ xat A j → j = i := by
  obtain ⟨i, hi, h1, h2⟩ := cnt_one (h.par' hx hy hne)
  simp only [Bool.and_eq_true, decide_eq_true_eq] at h1 h2
  exact ⟨i, hi, h1, fun j hj a b => h2 j hj ⟨a, b⟩⟩
theorem TS.pos (h : TS P A) : 0 < A.length := by
  have := h.p3
  obtain ⟨i, hi, _⟩ := h.one (x := 0) (y := 1) (by omega) (by omega) (by decide)
  omega
/-- three rising points -/
theorem three_of {b : List Int} (hi : Inc P b) (hl : b.length = 3) : ∃ x y z : Nat, x < y ∧ y < z ∧ z < P ∧ b = [(x : Int), (y : Int), (z : Int)] := by
  obtain ⟨x, hx, hxP⟩ := hi.nat (i := 0) (by omega)
  obtain ⟨y, hy, hyP⟩ := hi.nat (i := 1) (by omega)
  obtain ⟨z, hz, hzP⟩ := hi.nat (i := 2) (by omega)
  have h1 := hi.lt 0 1 (by omega) (by omega)
  have h2 := hi.lt 1 2 (by omega) (by omega)
  refine ⟨x, y, z, by omega, by omega, hzP, ?_⟩
  match b, hl with
  | [a, c, d], _ =>
    simp only [nth] at hx hy hz
    simp at hx hy hz
    rw [hx, hy, hz]
def sum3 (b : List Int) : Int := nth b 0 + nth b 1 + nth b 2
/-- the third point of the block through two points -/
def thF (A : List (List Int)) (x y : Nat) : Nat :=
  if x = y then x else match A.find? (fun b => decide ((x : Int) ∈ b) && decide ((y : Int) ∈ b)) with | some b => (sum3 b - x - y).toNat | none => 0
theorem thF_self (A : List (List Int)) (x : Nat) : thF A x x = x := by unfold thF; rw [if_pos rfl]
/-- what the third point is -/
theorem TS.th_of (h : TS P A) {x y z : Nat} {b : List Int} (hb : b ∈ A) (hx : (x : Int) ∈ b) (hy : (y : Int) ∈ b) (hz : (z : Int) ∈ b) (h1 : x ≠ y) (h2 : x ≠ z) (h3 : y ≠ z) : thF A x y = z := by
  have hlt : ∀ u : Nat, (u : Int) ∈ b → u < P := fun u hu => by
    obtain ⟨j, hj, e⟩ := List.getElem_of_mem hu
    have := (h.inc hb).bd j hj
    rw [nth_eq hj, e] at this; omega
  obtain ⟨i, hi, hxy, hu⟩ := h.one (hlt x hx) (hlt y hy) h1
  unfold thF
  rw [if_neg h1]
  obtain ⟨k, hk, rfl⟩ := List.getElem_of_mem hb
  have ek : xat A k = A[k] := xat_eq hk
  have hki := hu k hk (by rw [ek]; exact hx) (by rw [ek]; exact hy)
  cases hf : A.find? (fun b => decide ((x : Int) ∈ b) && decide ((y : Int) ∈ b)) with
  | none =>
    have := List.find?_eq_none.1 hf A[k] (List.getElem_mem hk)
    simp [hx, hy] at this
  | some c =>
    have hp := List.find?_some hf
    simp only [Bool.and_eq_true, decide_eq_true_eq] at hp
    obtain ⟨m, hm, rfl⟩ := List.getElem_of_mem (List.mem_of_find?_eq_some hf)
    have em : xat A m = A[m] := xat_eq hm
    have hmi := hu m hm (by rw [em]; exact hp.1) (by rw [em]; exact hp.2)
    have : m = k := by omega
    subst this
    obtain ⟨p, q, r, hpq, hqr, _, hb3⟩ := three_of (h.inc hb) (h.three _ hb)
    have hs : sum3 A[m] = p + q + r := by rw [hb3]; rfl
    rw [hb3] at hx hy hz
    simp at hx hy hz
    show (sum3 A[m] - x - y).toNat = z
    rw [hs]
    omega
/-- there is one -/
theorem TS.th (h : TS P A) {x y : Nat} (hx : x < P) (hy : y < P) (hne : x ≠ y) : ∃ b ∈ A, (x : Int) ∈ b ∧ (y : Int) ∈ b ∧ ((thF A x y : Nat) : Int) ∈ b ∧ thF A x y < P ∧ thF A x y ≠ x ∧ thF A x y ≠ y := by
  obtain ⟨i, hi, hxy, _⟩ := h.one hx hy hne
  have hb := xat_mem hi
  obtain ⟨p, q, r, hpq, hqr, hr, hb3⟩ := three_of (h.inc hb) (h.three _ hb)
  have hx1 : x = p ∨ x = q ∨ x = r := by have := hxy.1; rw [hb3] at this; simp at this; omega
  have hy1 : y = p ∨ y = q ∨ y = r := by have := hxy.2; rw [hb3] at this; simp at this; omega
  have key : ∀ z : Nat, (z : Int) ∈ xat A i → z ≠ x → z ≠ y → z < P → ∃ b ∈ A, (x : Int) ∈ b ∧ (y : Int) ∈ b ∧ ((thF A x y : Nat) : Int) ∈ b ∧ thF A x y < P ∧ thF A x y ≠ x ∧ thF A x y ≠ y := fun z hz z1 z2 hzP => by
    rw [h.th_of hb hxy.1 hxy.2 hz hne (fun e => z1 e.symm) (fun e => z2 e.symm)]
    exact ⟨_, hb, hxy.1, hxy.2, hz, hzP, z1, z2⟩
  rcases hx1 with rfl | rfl | rfl <;> rcases hy1 with rfl | rfl | rfl
  all_goals first
    | exact absurd rfl hne
    | exact key p (by rw [hb3]; simp) (by omega) (by omega) (by omega)
    | exact key q (by rw [hb3]; simp) (by omega) (by omega) (by omega)
    | exact key r (by rw [hb3]; simp) (by omega) (by omega) (by omega)
theorem TS.th_lt (h : TS P A) {x y : Nat} (hx : x < P) (hy : y < P) : thF A x y < P := by
  by_cases e : x = y
  · subst e; rw [thF_self]; exact hx
  · obtain ⟨_, _, _, _, _, h1, _⟩ := h.th hx hy e; exact h1
theorem TS.th_symm (h : TS P A) {x y : Nat} (hx : x < P) (hy : y < P) : thF A x y = thF A y x := by
  by_cases e : x = y
  · subst e; rfl
  · obtain ⟨b, hb, h1, h2, h3, _, h5, h6⟩ := h.th hx hy e
    exact (h.th_of hb h2 h1 h3 (fun q => e q.symm) (fun q => h6 q.symm) (fun q => h5 q.symm)).symm
theorem TS.th_back (h : TS P A) {x y : Nat} (hx : x < P) (hy : y < P) : thF A x (thF A x y) = y := by
  by_cases e : x = y
  · subst e; rw [thF_self, thF_self]
  · obtain ⟨b, hb, h1, h2, h3, _, h5, h6⟩ := h.th hx hy e
    exact h.th_of hb h1 h3 h2 (fun q => h5 q.symm) e h6
theorem TS.th_ne (h : TS P A) {x y : Nat} (hx : x < P) (hy : y < P) (hne : x ≠ y) : thF A x y ≠ x ∧ thF A x y ≠ y := by
  obtain ⟨b, hb, h1, h2, h3, _, h5, h6⟩ := h.th hx hy hne
  exact ⟨h5, h6⟩
theorem TS.th_inj (h : TS P A) {x y z : Nat} (hx : x < P) (hy : y < P) (hz : z < P) (e : thF A x y = thF A x z) : y = z := by
  rw [← h.th_back hx hy, e, h.th_back hx hz]
/-- the parameters -/
theorem TS.prm (h : TS P A) : prmB P A = true ∧ (xat A 0).length = 3 ∧ nth (parL P A) 0 = 1 := by
  have hp := h.p3
  have h0 := h.pos
  have hl : (xat A 0).length = 3 := h.three _ (xat_mem h0)
  have hpa : ∀ c ∈ parL P A, c = 1 := fun c hc => by
    obtain ⟨x, y, hxy, hy, rfl⟩ := parL_mem.1 hc
    exact h.par x y hxy hy
  have hm : parF A 0 1 ∈ parL P A := parL_mem.2 ⟨0, 1, by decide, by omega, rfl⟩
  have hpos : 0 < (parL P A).length := List.length_pos_of_mem hm
  have hn : nth (parL P A) 0 = 1 := hpa _ (nth_mem hpos)
  refine ⟨?_, hl, hn⟩
  simp only [prmB, Bool.and_eq_true, decide_eq_true_eq, List.all_eq_true, beq_iff_eq]
  exact ⟨⟨⟨⟨by omega, h0⟩, by omega⟩, fun b hb => by rw [h.three b hb, hl]⟩, fun c hc => by rw [hpa c hc, hn]⟩
/-- blocks put in order -/
theorem TS.of (h3 : 3 ≤ P) (h32 : P ≤ 32) (hn : A.length ≤ 128) (hb : ∀ b ∈ A, b.length = 3 ∧ incB (-1) P b = true) (hp : ∀ x y, x < y → y < P → parF A x y = 1) : TS P (srtL A) where
  p3 := h3
  ok := (DOk.mk' (by omega) (by omega) hn (fun b h => ⟨by rw [(hb b h).1]; decide, (hb b h).2⟩)).ok
  three b h := (hb b ((srtL_perm A).mem_iff.1 h)).1
  par x y hxy hy := by
    unfold parF
    rw [cntD_perm (srtL_perm A)]
    exact hp x y hxy hy
/-- renamed points -/
theorem TS.img {p : List Int} (h : TS P A) (hp : IsP p) (hl : p.length = P) : TS P (srtL (imgL p A)) := by
  have hD := dOk_t h.ok
  have hA : ∀ b ∈ A, Inc P b := fun b hb => h.inc hb
  refine ⟨h.p3, DOk.ok (DOk.mk' hD.pos hD.le (by rw [imgL, List.length_map]; exact hD.len) fun b hb => ?_), fun b hb => ?_, fun x' y' hxy hy => ?_⟩
  · obtain ⟨c, hc, rfl⟩ := List.mem_map.1 hb
    exact ⟨by rw [imgB_len hp hl (hA c hc), h.three c hc]; decide, imgB_inc hp hl (hA c hc)⟩
  · obtain ⟨c, hc, rfl⟩ := List.mem_map.1 ((srtL_perm _).mem_iff.1 hb)
    rw [imgB_len hp hl (hA c hc), h.three c hc]
  · obtain ⟨x, hx, ex⟩ := hp.onto2 (v := x') (by omega)
    obtain ⟨y, hy', ey⟩ := hp.onto2 (v := y') (by omega)
    rw [img_par hp hl hA (by omega) (by omega) ex ey]
    exact h.par' (by omega) (by omega) (fun e => by subst e; omega)
end
end Go.Proofs.YtegmjlblehjccaaGreat
end

section
/- Plain: the triples of a square of third points. -/
namespace Go.Proofs.YtegmjlblehjccaaGreat
set_option linter.unusedSimpArgs false
set_option linter.unusedVariables false
open Go

/-- the triples of one row -/
def tsR (P : Nat) (f : Nat → Nat → Nat) (x y : Nat) : List (List Int) := if x < y ∧ y < f x y then [[(x : Int), (y : Int), (f x y : Int)]] else []
def tsL (P : Nat) (f : Nat → Nat → Nat) : List (List Int) := (List.range P).flatMap fun x => (List.range P).flatMap (tsR P f x)
section
variable {P : Nat} {A : List (List Int)}
theorem tsL_mem {f : Nat → Nat → Nat} {b : List Int} : b ∈ tsL P f ↔ ∃ x y, x < y ∧ y < P ∧ y < f x y ∧ b = [(x : Int), (y : Int), (f x y : Int)] := by
  unfold tsL
  simp only [List.mem_flatMap, List.mem_range]
  constructor
  · rintro ⟨x, hx, y, hy, h⟩
    unfold tsR at h
    split at h
    · rename_i hc
      exact ⟨x, y, hc.1, hy, hc.2, List.mem_singleton.1 h⟩
    · simp at h
  · rintro ⟨x, y, hxy, hy, hf, rfl⟩
    refine ⟨x, by omega, y, hy, ?_⟩
    unfold tsR
    rw [if_pos ⟨hxy, hf⟩]; simp
theorem tsR_mem {f : Nat → Nat → Nat} {x y : Nat} {b : List Int} (h : b ∈ tsR P f x y) : b = [(x : Int), (y : Int), (f x y : Int)] := by
  unfold tsR at h
  split at h
  · exact List.mem_singleton.1 h
  · simp at h
theorem tsL_nodup (f : Nat → Nat → Nat) : (tsL P f).Nodup := by
  unfold tsL List.Nodup
  rw [List.pairwise_flatMap]
  refine ⟨fun x _ => ?_, ?_⟩
  · rw [List.pairwise_flatMap]
    refine ⟨fun y _ => by unfold tsR; split <;> simp, ?_⟩
    refine List.Pairwise.imp (fun {y z} hne => ?_) (List.nodup_range (n := P))
    intro b hb c hc e
    rw [tsR_mem hb, tsR_mem hc] at e
    simp at e
    exact hne (by have := e.1; omega)
  · refine List.Pairwise.imp (fun {x z} hne => ?_) (List.nodup_range (n := P))
    intro b hb c hc e
    obtain ⟨y, _, hb⟩ := List.mem_flatMap.1 hb
    obtain ⟨t, _, hc⟩ := List.mem_flatMap.1 hc
    rw [tsR_mem hb, tsR_mem hc] at e
    simp at e
    exact hne (by have := e.1; omega)
theorem TS.nodup (h : TS P A) : A.Nodup := by
  rw [List.nodup_iff_pairwise_ne, List.pairwise_iff_getElem]
  intro i j hi hj hij e
  have hb := List.getElem_mem hi
  obtain ⟨x, y, z, hxy, hyz, hz, hb3⟩ := three_of (h.inc hb) (h.three _ hb)
  obtain ⟨k, _, _, hu⟩ := h.one (x := x) (y := y) (by omega) (by omega) (by omega)
  have ei : xat A i = A[i] := xat_eq hi
  have ej : xat A j = A[j] := xat_eq hj
  have h1 := hu i hi (by rw [ei, hb3]; simp) (by rw [ei, hb3]; simp)
  have h2 := hu j hj (by rw [ej, ← e, hb3]; simp) (by rw [ej, ← e, hb3]; simp)
  omega
/-- the square gives its system back -/
theorem TS.back (h : TS P A) : srtL (tsL P (thF A)) = A := by
  have hp : (tsL P (thF A)).Perm A := (List.perm_ext_iff_of_nodup (tsL_nodup _) h.nodup).2 fun b => by
    rw [tsL_mem]
    constructor
    · rintro ⟨x, y, hxy, hy, hf, rfl⟩
      obtain ⟨c, hc, h1, h2, h3, _, _, _⟩ := h.th (x := x) (y := y) (by omega) hy (by omega)
      obtain ⟨p, q, r, hpq, hqr, hr, rfl⟩ := three_of (h.inc hc) (h.three _ hc)
      simp at h1 h2 h3
      have e1 : x = p := by omega
      have e2 : y = q := by omega
      have e3 : thF A x y = r := by omega
      rw [e3, e1, e2]; exact hc
    · intro hb
      obtain ⟨p, q, r, hpq, hqr, hr, rfl⟩ := three_of (h.inc hb) (h.three _ hb)
      have e := h.th_of (x := p) (y := q) (z := r) hb (by simp) (by simp) (by simp) (by omega) (by omega) (by omega)
      exact ⟨p, q, hpq, by omega, by omega, by rw [e]⟩
  rw [srtL_congr hp, srtL_id (dOk_t h.ok).srt]
end
end Go.Proofs.YtegmjlblehjccaaGreat
end

section
/- Plain: the constructed triple systems (by kernel check for the orders up to 27). -/
namespace Go.Proofs.YtegmjlblehjccaaGreat
set_option linter.unusedSimpArgs false
set_option linter.unusedVariables false
open Go

/-- three points in ascending order -/
def trp (a b c : Nat) : List Int := putL (putL [(a : Int)] (b : Int)) (c : Int)
def mxT (n : Nat) (f : Nat → Nat) (x y i : Nat) : List Int := trp (x + n * i) (y + n * i) (f ((x + y) % n) + n * ((i + 1) % 3))
def mxY (n : Nat) (f : Nat → Nat) (x y : Nat) : List (List Int) := if x < y then (List.range 3).map (mxT n f x y) else []
def mxX (n : Nat) (f : Nat → Nat) (x k : Nat) : List (List Int) := (List.range k).flatMap (mxY n f x)
def mxL (n : Nat) (f : Nat → Nat) (k : Nat) : List (List Int) := (List.range k).flatMap fun x => mxX n f x n
def bosF (t s : Nat) : Nat := (t + 1) * s % (2 * t + 1)
def skoF (t s : Nat) : Nat := s / 2 + s % 2 * t
def strT (n x : Nat) : List Int := trp x (x + n) (x + 2 * n)
def skoT (t x i : Nat) : List Int := trp (3 * (2 * t)) (x + t + 2 * t * i) (x + 2 * t * ((i + 1) % 3))
def skoX (t x : Nat) : List (List Int) := strT (2 * t) x :: (List.range 3).map (skoT t x)
def skoL (t k : Nat) : List (List Int) := (List.range k).flatMap (skoX t)
/-- the blocks of the reference -/
def bosX (t x k : Nat) : List (List Int) := strT (2 * t + 1) x :: mxX (2 * t + 1) (bosF t) x k
def bosL (t k : Nat) : List (List Int) := (List.range k).flatMap fun x => bosX t x (2 * t + 1)
def mkTS (v : Nat) : List (List Int) := if v % 6 = 3 then bosL (v / 6) (2 * (v / 6) + 1) else skoL (v / 6) (v / 6) ++ mxL (2 * (v / 6)) (skoF (v / 6)) (2 * (v / 6))
def tsRow (A : List (List Int)) (x P : Nat) : Bool := (List.range P).all fun y => decide (y ≤ x) || (cntD (fun b => decide ((y : Int) ∈ b)) A == 1)
def tsOk (P : Nat) (A : List (List Int)) : Bool := decide (3 ≤ P) && decide (P ≤ 32) && decide (A.length ≤ 128) && (A.all fun b => b.length == 3 && incB (-1) P b) && (List.range P).all fun x => tsRow (A.filter fun b => decide ((x : Int) ∈ b)) x P
theorem tsOk_ts {P : Nat} {A : List (List Int)} (h : tsOk P A = true) : TS P (srtL A) := by
  simp only [tsOk, tsRow, Bool.and_eq_true, decide_eq_true_eq, List.all_eq_true, beq_iff_eq, List.mem_range, Bool.or_eq_true] at h
  obtain ⟨⟨⟨⟨h1, h2⟩, h3⟩, h4⟩, h5⟩ := h
  refine TS.of h1 h2 h3 h4 fun x y hxy hy => ?_
  have := (h5 x (by omega) y hy).resolve_left (by omega)
  rw [← this]
  unfold parF cntD
  rw [List.filter_filter]
  congr 3
  funext b
  exact Bool.and_comm _ _
theorem mkTS_ok : ∀ v ∈ ([3, 7, 9, 13, 15, 19] : List Nat), tsOk v (mkTS v) = true := by decide +kernel
end Go.Proofs.YtegmjlblehjccaaGreat
end

section
/- Plain: quadrilaterals of triple systems, and their switching. -/
namespace Go.Proofs.YtegmjlblehjccaaGreat
set_option linter.unusedSimpArgs false
set_option linter.unusedVariables false
open Go

/-- the points of a block -/
def IsB (B : List Int) (a b c : Nat) : Prop := ∀ z : Int, z ∈ B ↔ z = a ∨ z = b ∨ z = c
/-- six different points -/
structure Six (a b c d e f : Nat) : Prop where
  ab : a ≠ b
  ac : a ≠ c
  ad : a ≠ d
  ae : a ≠ e
  af : a ≠ f
  bc : b ≠ c
  bd : b ≠ d
  be : b ≠ e
  bf : b ≠ f
  cd : c ≠ d
  ce : c ≠ e
  cf : c ≠ f
  de : d ≠ e
  df : d ≠ f
  ef : e ≠ f
/-- the indices q of four blocks on six points -/
structure Pas (A : List (List Int)) (q : List Int) (i j k l a b c d e f : Nat) : Prop where
  li : i < A.length
  lj : j < A.length
  lk : k < A.length
  ll : l < A.length
  b1 : IsB (xat A i) a b c
  b2 : IsB (xat A j) a d e
  b3 : IsB (xat A k) f b d
  b4 : IsB (xat A l) f c e
  nd : Six a b c d e f
  inc : q.Pairwise (· < ·)
  mem : ∀ z : Int, z ∈ q ↔ z = i ∨ z = j ∨ z = k ∨ z = l
theorem IsB.re {B : List Int} {a b c a' b' c' : Nat} (h : IsB B a b c) (hz : ∀ z : Int, (z = a ∨ z = b ∨ z = c) ↔ (z = a' ∨ z = b' ∨ z = c')) : IsB B a' b' c' := fun z => (h z).trans (hz z)
section
variable {P : Nat} {A : List (List Int)} {q : List Int} {i j k l a b c d e f : Nat}
theorem IsB.no {B : List Int} {a b c x : Nat} (h : IsB B a b c) (h1 : x ≠ a) (h2 : x ≠ b) (h3 : x ≠ c) : (x : Int) ∉ B := by rw [h x]; omega
theorem IsB.m1 {B : List Int} {a b c : Nat} (h : IsB B a b c) : (a : Int) ∈ B := (h a).2 (.inl rfl)
theorem IsB.m2 {B : List Int} {a b c : Nat} (h : IsB B a b c) : (b : Int) ∈ B := (h b).2 (.inr (.inl rfl))
theorem IsB.m3 {B : List Int} {a b c : Nat} (h : IsB B a b c) : (c : Int) ∈ B := (h c).2 (.inr (.inr rfl))
theorem Pas.rb (h : Pas A q i j k l a b c d e f) : Pas A q i k j l b a c d f e :=
  ⟨h.li, h.lk, h.lj, h.ll, h.b1.re fun z => by omega, h.b3.re fun z => by omega, h.b2.re fun z => by omega, h.b4.re fun z => by omega, ⟨h.nd.ab.symm, h.nd.bc, h.nd.bd, h.nd.bf, h.nd.be, h.nd.ac, h.nd.ad, h.nd.af, h.nd.ae, h.nd.cd, h.nd.cf, h.nd.ce, h.nd.df, h.nd.de, h.nd.ef.symm⟩, h.inc, fun z => by rw [h.mem z]; omega⟩
theorem Pas.rc (h : Pas A q i j k l a b c d e f) : Pas A q i l j k c a b e f d :=
  ⟨h.li, h.ll, h.lj, h.lk, h.b1.re fun z => by omega, h.b4.re fun z => by omega, h.b2.re fun z => by omega, h.b3.re fun z => by omega, ⟨h.nd.ac.symm, h.nd.bc.symm, h.nd.ce, h.nd.cf, h.nd.cd, h.nd.ab, h.nd.ae, h.nd.af, h.nd.ad, h.nd.be, h.nd.bf, h.nd.bd, h.nd.ef, h.nd.de.symm, h.nd.df.symm⟩, h.inc, fun z => by rw [h.mem z]; omega⟩
theorem Pas.rd (h : Pas A q i j k l a b c d e f) : Pas A q j k i l d a e b f c :=
  ⟨h.lj, h.lk, h.li, h.ll, h.b2.re fun z => by omega, h.b3.re fun z => by omega, h.b1.re fun z => by omega, h.b4.re fun z => by omega, ⟨h.nd.ad.symm, h.nd.de, h.nd.bd.symm, h.nd.df, h.nd.cd.symm, h.nd.ae, h.nd.ab, h.nd.af, h.nd.ac, h.nd.be.symm, h.nd.ef, h.nd.ce.symm, h.nd.bf, h.nd.bc, h.nd.cf.symm⟩, h.inc, fun z => by rw [h.mem z]; omega⟩
theorem Pas.re (h : Pas A q i j k l a b c d e f) : Pas A q j l i k e a d c f b :=
  ⟨h.lj, h.ll, h.li, h.lk, h.b2.re fun z => by omega, h.b4.re fun z => by omega, h.b1.re fun z => by omega, h.b3.re fun z => by omega, ⟨h.nd.ae.symm, h.nd.de.symm, h.nd.ce.symm, h.nd.ef, h.nd.be.symm, h.nd.ad, h.nd.ac, h.nd.af, h.nd.ab, h.nd.cd.symm, h.nd.df, h.nd.bd.symm, h.nd.cf, h.nd.bc.symm, h.nd.bf.symm⟩, h.inc, fun z => by rw [h.mem z]; omega⟩
theorem Pas.rf (h : Pas A q i j k l a b c d e f) : Pas A q k l i j f b d c e a :=
  ⟨h.lk, h.ll, h.li, h.lj, h.b3.re fun z => by omega, h.b4.re fun z => by omega, h.b1.re fun z => by omega, h.b2.re fun z => by omega, ⟨h.nd.bf.symm, h.nd.df.symm, h.nd.cf.symm, h.nd.ef.symm, h.nd.af.symm, h.nd.bd, h.nd.bc, h.nd.be, h.nd.ab.symm, h.nd.cd.symm, h.nd.de, h.nd.ad.symm, h.nd.ce, h.nd.ac.symm, h.nd.ae.symm⟩, h.inc, fun z => by rw [h.mem z]; omega⟩
/-- any of the six points may come first -/
theorem Pas.at (h : Pas A q i j k l a b c d e f) {x : Nat} (hx : x = a ∨ x = b ∨ x = c ∨ x = d ∨ x = e ∨ x = f) : ∃ i j k l b' c' d' e' f', Pas A q i j k l x b' c' d' e' f' ∧ ∀ z : Nat, (z = a ∨ z = b ∨ z = c ∨ z = d ∨ z = e ∨ z = f) ↔ (z = x ∨ z = b' ∨ z = c' ∨ z = d' ∨ z = e' ∨ z = f') := by
  rcases hx with rfl | rfl | rfl | rfl | rfl | rfl
  · exact ⟨_, _, _, _, _, _, _, _, _, h, fun z => by omega⟩
  · exact ⟨_, _, _, _, _, _, _, _, _, h.rb, fun z => by omega⟩
  · exact ⟨_, _, _, _, _, _, _, _, _, h.rc, fun z => by omega⟩
  · exact ⟨_, _, _, _, _, _, _, _, _, h.rd, fun z => by omega⟩
  · exact ⟨_, _, _, _, _, _, _, _, _, h.re, fun z => by omega⟩
  · exact ⟨_, _, _, _, _, _, _, _, _, h.rf, fun z => by omega⟩
theorem Pas.idx (h : Pas A q i j k l a b c d e f) : [(i : Int), (j : Int), (k : Int), (l : Int)].Nodup := by
  have h1 : i ≠ j := fun e => h.b2.no h.nd.ab.symm h.nd.bd h.nd.be (e ▸ h.b1.m2)
  have h2 : i ≠ k := fun e => h.b3.no h.nd.af h.nd.ab h.nd.ad (e ▸ h.b1.m1)
  have h3 : i ≠ l := fun e => h.b4.no h.nd.af h.nd.ac h.nd.ae (e ▸ h.b1.m1)
  have h4 : j ≠ k := fun e => h.b3.no h.nd.af h.nd.ab h.nd.ad (e ▸ h.b2.m1)
  have h5 : j ≠ l := fun e => h.b4.no h.nd.af h.nd.ac h.nd.ae (e ▸ h.b2.m1)
  have h6 : k ≠ l := fun e => h.b4.no h.nd.bf h.nd.bc h.nd.be (e ▸ h.b3.m2)
  simp only [List.nodup_cons, List.mem_cons, List.not_mem_nil, or_false, not_or, not_false_eq_true, List.nodup_nil, and_true]
  exact ⟨⟨by omega, by omega, by omega⟩, ⟨by omega, by omega⟩, by omega⟩
theorem Pas.qp (h : Pas A q i j k l a b c d e f) : q.Perm [(i : Int), (j : Int), (k : Int), (l : Int)] :=
  (List.perm_ext_iff_of_nodup (h.inc.imp fun hlt => by omega) h.idx).2 fun z => by rw [h.mem z]; simp
theorem Pas.ql (h : Pas A q i j k l a b c d e f) : q.length = 4 := by rw [h.qp.length_eq]; rfl
/-- the four blocks -/
def qBl (A : List (List Int)) (q : List Int) : List (List Int) := q.map fun z => xat A z.toNat
theorem Pas.qb (h : Pas A q i j k l a b c d e f) : (qBl A q).Perm [xat A i, xat A j, xat A k, xat A l] := (h.qp.map fun z : Int => xat A z.toNat)
theorem Pas.qbm (h : Pas A q i j k l a b c d e f) (B : List Int) : B ∈ qBl A q ↔ B = xat A i ∨ B = xat A j ∨ B = xat A k ∨ B = xat A l := by rw [h.qb.mem_iff]; simp
theorem Pas.qnd (h : Pas A q i j k l a b c d e f) : (qBl A q).Nodup := by
  rw [h.qb.nodup_iff]
  have h1 : xat A i ≠ xat A j := fun e => h.b2.no h.nd.ab.symm h.nd.bd h.nd.be (e ▸ h.b1.m2)
  have h2 : xat A i ≠ xat A k := fun e => h.b3.no h.nd.af h.nd.ab h.nd.ad (e ▸ h.b1.m1)
  have h3 : xat A i ≠ xat A l := fun e => h.b4.no h.nd.af h.nd.ac h.nd.ae (e ▸ h.b1.m1)
  have h4 : xat A j ≠ xat A k := fun e => h.b3.no h.nd.af h.nd.ab h.nd.ad (e ▸ h.b2.m1)
  have h5 : xat A j ≠ xat A l := fun e => h.b4.no h.nd.af h.nd.ac h.nd.ae (e ▸ h.b2.m1)
  have h6 : xat A k ≠ xat A l := fun e => h.b4.no h.nd.bf h.nd.bc h.nd.be (e ▸ h.b3.m2)
  simp only [List.nodup_cons, List.mem_cons, List.not_mem_nil, or_false, not_or, not_false_eq_true, List.nodup_nil, and_true]
  exact ⟨⟨h1, h2, h3⟩, ⟨h4, h5⟩, h6⟩
theorem Pas.qbA (h : Pas A q i j k l a b c d e f) {B : List Int} (hB : B ∈ qBl A q) : B ∈ A := by
  rcases (h.qbm B).1 hB with rfl | rfl | rfl | rfl
  · exact xat_mem h.li
  · exact xat_mem h.lj
  · exact xat_mem h.lk
  · exact xat_mem h.ll
/-- two points exchanged -/
def exP (x y z : Int) : Int := if z = x then y else if z = y then x else z
def swB (x y : Int) (B : List Int) : List Int := upF (fun z => decide (exP x y z ∈ B)) 0 32
def swQ (A : List (List Int)) (q : List Int) (x y : Int) : List (List Int) := A.map fun B => if B ∈ qBl A q then swB x y B else B
theorem swB_mem {x y z : Int} {B : List Int} (hB : ∀ t ∈ B, 0 ≤ t ∧ t < 32) (hx : 0 ≤ x ∧ x < 32) (hy : 0 ≤ y ∧ y < 32) : z ∈ swB x y B ↔ exP x y z ∈ B := by
  unfold swB
  rw [mem_upF]
  constructor
  · rintro ⟨_, _, h⟩; exact of_decide_eq_true h
  · intro h
    have h1 := hB _ h
    refine ⟨?_, ?_, decide_eq_true h⟩
    all_goals
      unfold exP at h1
      split at h1
      · omega
      · split at h1 <;> omega
theorem IsB.sw {B : List Int} {a b c f : Nat} (h : IsB B a b c) (hB : ∀ t ∈ B, 0 ≤ t ∧ t < 32) (hf : f < 32) (h1 : a ≠ b) (h2 : a ≠ c) (h3 : f ≠ b) (h4 : f ≠ c) : IsB (swB a f B) f b c := fun z => by
  have ha := hB a ((h a).2 (by omega))
  rw [swB_mem hB (by omega) (by omega), h (exP a f z)]
  unfold exP
  split
  · omega
  · split <;> omega
theorem IsB.sw2 {B : List Int} {a b c f : Nat} (h : IsB B f b c) (hB : ∀ t ∈ B, 0 ≤ t ∧ t < 32) (ha : a < 32) (h1 : a ≠ b) (h2 : a ≠ c) (h3 : f ≠ b) (h4 : f ≠ c) : IsB (swB a f B) a b c := fun z => by
  have hf := hB f ((h f).2 (by omega))
  rw [swB_mem hB (by omega) (by omega), h (exP a f z)]
  unfold exP
  split
  · omega
  · split <;> omega
theorem IsB.len {B : List Int} {a b c : Nat} (h : IsB B a b c) (hp : B.Pairwise (· < ·)) (h1 : a ≠ b) (h2 : a ≠ c) (h3 : b ≠ c) : B.length = 3 := by
  have : B.Perm [(a : Int), (b : Int), (c : Int)] := (List.perm_ext_iff_of_nodup (hp.imp fun hlt => by omega) (by simp; omega)).2 fun z => by rw [h z]; simp
  rw [this.length_eq]; rfl
theorem parF_app (A B : List (List Int)) (x y : Nat) : parF (A ++ B) x y = parF A x y + parF B x y := by
  unfold parF cntD; rw [List.filter_append, List.length_append]; omega
theorem parF_perm {A B : List (List Int)} (h : A.Perm B) (x y : Nat) : parF A x y = parF B x y := cntD_perm h
theorem ind2_B {B : List Int} {a b c : Nat} (h : IsB B a b c) (x y : Nat) : ind2 B x y = if (x = a ∨ x = b ∨ x = c) ∧ (y = a ∨ y = b ∨ y = c) then 1 else 0 := by
  unfold ind2
  have e : ((x : Int) ∈ B ∧ (y : Int) ∈ B) ↔ ((x = a ∨ x = b ∨ x = c) ∧ (y = a ∨ y = b ∨ y = c)) := by
    rw [h x, h y]; omega
  by_cases hc : (x = a ∨ x = b ∨ x = c) ∧ (y = a ∨ y = b ∨ y = c)
  · rw [if_pos hc, if_pos (e.2 hc)]
  · rw [if_neg hc, if_neg fun q => hc (e.1 q)]
/-- which of the six points -/
def c6 (a b c d e f x : Nat) : Nat := if x = a then 0 else if x = b then 1 else if x = c then 2 else if x = d then 3 else if x = e then 4 else if x = f then 5 else 6
theorem c6_iff (h : Six a b c d e f) (x : Nat) : (x = a ↔ c6 a b c d e f x = 0) ∧ (x = b ↔ c6 a b c d e f x = 1) ∧ (x = c ↔ c6 a b c d e f x = 2) ∧ (x = d ↔ c6 a b c d e f x = 3) ∧ (x = e ↔ c6 a b c d e f x = 4) ∧ (x = f ↔ c6 a b c d e f x = 5) ∧ c6 a b c d e f x < 7 := by
  unfold c6
  by_cases h1 : x = a
  · subst h1; simp [h.ab, h.ac, h.ad, h.ae, h.af, h.bc, h.bd, h.be, h.bf, h.cd, h.ce, h.cf, h.de, h.df, h.ef, h.ab.symm, h.ac.symm, h.ad.symm, h.ae.symm, h.af.symm, h.bc.symm, h.bd.symm, h.be.symm, h.bf.symm, h.cd.symm, h.ce.symm, h.cf.symm, h.de.symm, h.df.symm, h.ef.symm]
  · by_cases h2 : x = b
    · subst h2; simp [h.ab, h.ac, h.ad, h.ae, h.af, h.bc, h.bd, h.be, h.bf, h.cd, h.ce, h.cf, h.de, h.df, h.ef, h.ab.symm, h.ac.symm, h.ad.symm, h.ae.symm, h.af.symm, h.bc.symm, h.bd.symm, h.be.symm, h.bf.symm, h.cd.symm, h.ce.symm, h.cf.symm, h.de.symm, h.df.symm, h.ef.symm]
    · by_cases h3 : x = c
      · subst h3; simp [h.ab, h.ac, h.ad, h.ae, h.af, h.bc, h.bd, h.be, h.bf, h.cd, h.ce, h.cf, h.de, h.df, h.ef, h.ab.symm, h.ac.symm, h.ad.symm, h.ae.symm, h.af.symm, h.bc.symm, h.bd.symm, h.be.symm, h.bf.symm, h.cd.symm, h.ce.symm, h.cf.symm, h.de.symm, h.df.symm, h.ef.symm]
      · by_cases h4 : x = d
        · subst h4; simp [h.ab, h.ac, h.ad, h.ae, h.af, h.bc, h.bd, h.be, h.bf, h.cd, h.ce, h.cf, h.de, h.df, h.ef, h.ab.symm, h.ac.symm, h.ad.symm, h.ae.symm, h.af.symm, h.bc.symm, h.bd.symm, h.be.symm, h.bf.symm, h.cd.symm, h.ce.symm, h.cf.symm, h.de.symm, h.df.symm, h.ef.symm]
        · by_cases h5 : x = e
          · subst h5; simp [h.ab, h.ac, h.ad, h.ae, h.af, h.bc, h.bd, h.be, h.bf, h.cd, h.ce, h.cf, h.de, h.df, h.ef, h.ab.symm, h.ac.symm, h.ad.symm, h.ae.symm, h.af.symm, h.bc.symm, h.bd.symm, h.be.symm, h.bf.symm, h.cd.symm, h.ce.symm, h.cf.symm, h.de.symm, h.df.symm, h.ef.symm]
          · by_cases h6 : x = f
            · subst h6; simp [h.ab, h.ac, h.ad, h.ae, h.af, h.bc, h.bd, h.be, h.bf, h.cd, h.ce, h.cf, h.de, h.df, h.ef, h.ab.symm, h.ac.symm, h.ad.symm, h.ae.symm, h.af.symm, h.bc.symm, h.bd.symm, h.be.symm, h.bf.symm, h.cd.symm, h.ce.symm, h.cf.symm, h.de.symm, h.df.symm, h.ef.symm]
            · simp [h1, h2, h3, h4, h5, h6]
theorem four_dec : ∀ u ∈ List.range 7, ∀ v ∈ List.range 7, (u = v ∧ u ≠ 6) ∨
    ((if (u = 5 ∨ u = 1 ∨ u = 2) ∧ (v = 5 ∨ v = 1 ∨ v = 2) then (1 : Int) else 0) + ((if (u = 5 ∨ u = 3 ∨ u = 4) ∧ (v = 5 ∨ v = 3 ∨ v = 4) then 1 else 0) + ((if (u = 0 ∨ u = 1 ∨ u = 3) ∧ (v = 0 ∨ v = 1 ∨ v = 3) then 1 else 0) + ((if (u = 0 ∨ u = 2 ∨ u = 4) ∧ (v = 0 ∨ v = 2 ∨ v = 4) then 1 else 0) + 0)))) =
    ((if (u = 0 ∨ u = 1 ∨ u = 2) ∧ (v = 0 ∨ v = 1 ∨ v = 2) then 1 else 0) + ((if (u = 0 ∨ u = 3 ∨ u = 4) ∧ (v = 0 ∨ v = 3 ∨ v = 4) then 1 else 0) + ((if (u = 5 ∨ u = 1 ∨ u = 3) ∧ (v = 5 ∨ v = 1 ∨ v = 3) then 1 else 0) + ((if (u = 5 ∨ u = 2 ∨ u = 4) ∧ (v = 5 ∨ v = 2 ∨ v = 4) then 1 else 0) + 0)))) := by decide
/-- four blocks and the exchanged ones have the same pairs -/
theorem four_par {B1 B2 B3 B4 C1 C2 C3 C4 : List Int} (hn : Six a b c d e f) (b1 : IsB B1 a b c) (b2 : IsB B2 a d e) (b3 : IsB B3 f b d) (b4 : IsB B4 f c e)
    (c1 : IsB C1 f b c) (c2 : IsB C2 f d e) (c3 : IsB C3 a b d) (c4 : IsB C4 a c e) {x y : Nat} (hxy : x ≠ y) : parF [C1, C2, C3, C4] x y = parF [B1, B2, B3, B4] x y := by
  rw [parF_cons, parF_cons, parF_cons, parF_cons, parF_cons, parF_cons, parF_cons, parF_cons]
  rw [ind2_B b1, ind2_B b2, ind2_B b3, ind2_B b4, ind2_B c1, ind2_B c2, ind2_B c3, ind2_B c4, show parF [] x y = 0 from rfl]
  obtain ⟨x1, x2, x3, x4, x5, x6, x7⟩ := c6_iff hn x
  obtain ⟨y1, y2, y3, y4, y5, y6, y7⟩ := c6_iff hn y
  simp only [x1, x2, x3, x4, x5, x6, y1, y2, y3, y4, y5, y6]
  rcases four_dec _ (List.mem_range.2 x7) _ (List.mem_range.2 y7) with ⟨e1, e2⟩ | h
  · exfalso
    have : c6 a b c d e f x = 0 ∨ c6 a b c d e f x = 1 ∨ c6 a b c d e f x = 2 ∨ c6 a b c d e f x = 3 ∨ c6 a b c d e f x = 4 ∨ c6 a b c d e f x = 5 := by omega
    rcases this with q | q | q | q | q | q
    · exact hxy ((x1.2 q).trans (y1.2 (e1 ▸ q)).symm)
    · exact hxy ((x2.2 q).trans (y2.2 (e1 ▸ q)).symm)
    · exact hxy ((x3.2 q).trans (y3.2 (e1 ▸ q)).symm)
    · exact hxy ((x4.2 q).trans (y4.2 (e1 ▸ q)).symm)
    · exact hxy ((x5.2 q).trans (y5.2 (e1 ▸ q)).symm)
    · exact hxy ((x6.2 q).trans (y6.2 (e1 ▸ q)).symm)
  · exact h
theorem swQ_perm (hA : A.Nodup) {Q : List (List Int)} (hQ : Q.Nodup) (hs : ∀ B ∈ Q, B ∈ A) (g : List Int → List Int) : (A.map fun B => if B ∈ Q then g B else B).Perm (Q.map g ++ A.filter fun B => decide (B ∉ Q)) ∧ A.Perm (Q ++ A.filter fun B => decide (B ∉ Q)) := by
  have hp : A.Perm (Q ++ A.filter fun B => decide (B ∉ Q)) := (List.perm_ext_iff_of_nodup hA (List.nodup_append.2 ⟨hQ, hA.filter _, fun x hx y hy e => by
    subst e
    exact of_decide_eq_true (List.mem_filter.1 hy).2 hx⟩)).2 fun B => by
      rw [List.mem_append, List.mem_filter, decide_eq_true_eq]
      constructor
      · intro h
        by_cases hq : B ∈ Q
        · exact .inl hq
        · exact .inr ⟨h, hq⟩
      · rintro (h | h)
        · exact hs B h
        · exact h.1
  refine ⟨?_, hp⟩
  refine (hp.map _).trans ?_
  rw [List.map_append]
  have e1 : (Q.map fun B => if B ∈ Q then g B else B) = Q.map g := List.map_congr_left fun B hB => if_pos hB
  have e2 : ((A.filter fun B => decide (B ∉ Q)).map fun B => if B ∈ Q then g B else B) = A.filter fun B => decide (B ∉ Q) := by
    refine (List.map_congr_left fun B hB => ?_).trans (List.map_id _)
    exact if_neg (of_decide_eq_true (List.mem_filter.1 hB).2)
  rw [e1, e2]
/-- the switched system -/
theorem Pas.ts (hT : TS P A) (h : Pas A q i j k l a b c d e f) : TS P (srtL (swQ A q a f)) := by
  have hP := hT.p32
  have hin : ∀ B ∈ A, ∀ t ∈ B, 0 ≤ t ∧ t < (P : Int) := fun B hB t ht => by
    obtain ⟨m, hm, e⟩ := List.getElem_of_mem ht
    have := (hT.inc hB).bd m hm
    rw [nth_eq hm, e] at this; exact this
  have hin2 : ∀ B ∈ A, ∀ t ∈ B, 0 ≤ t ∧ t < (32 : Int) := fun B hB t ht => by have := hin B hB t ht; omega
  have m1 := xat_mem h.li
  have m2 := xat_mem h.lj
  have m3 := xat_mem h.lk
  have m4 := xat_mem h.ll
  have ha := hin _ m1 a h.b1.m1
  have hb := hin _ m1 b h.b1.m2
  have hc := hin _ m1 c h.b1.m3
  have hd := hin _ m2 d h.b2.m2
  have he := hin _ m2 e h.b2.m3
  have hf := hin _ m3 f h.b3.m1
  have c1 := h.b1.sw (f := f) (hin2 _ m1) (by omega) h.nd.ab h.nd.ac h.nd.bf.symm h.nd.cf.symm
  have c2 := h.b2.sw (f := f) (hin2 _ m2) (by omega) h.nd.ad h.nd.ae h.nd.df.symm h.nd.ef.symm
  have c3 := h.b3.sw2 (a := a) (hin2 _ m3) (by omega) h.nd.ab h.nd.ad h.nd.bf.symm h.nd.df.symm
  have c4 := h.b4.sw2 (a := a) (hin2 _ m4) (by omega) h.nd.ac h.nd.ae h.nd.cf.symm h.nd.ef.symm
  have hD := dOk_t hT.ok
  obtain ⟨p1, p2⟩ := swQ_perm hT.nodup h.qnd (fun B hB => h.qbA hB) (swB a f)
  have p1 : (swQ A q a f).Perm _ := p1
  have hblk : ∀ {B : List Int} {x y z : Nat}, IsB (swB a f B) x y z → x ≠ y → x ≠ z → y ≠ z → x < P → y < P → z < P → (swB a f B).length = 3 ∧ incB (-1) P (swB a f B) = true := fun {B x y z} hB h1 h2 h3 h4 h5 h6 => by
    have hi : incB (-1) 32 (swB a f B) = true := isSet_upF _
    refine ⟨hB.len (incB_pw hi) h1 h2 h3, incB_of (fun t ht => ?_) (incB_pw hi)⟩
    have := (hB t).1 ht
    omega
  refine TS.of hT.p3 hP (by rw [swQ, List.length_map]; exact hD.len) (fun B hB => ?_) (fun x y hxy hy => ?_)
  · obtain ⟨B0, hB0, rfl⟩ := List.mem_map.1 hB
    by_cases hq : B0 ∈ qBl A q
    · show (if B0 ∈ qBl A q then swB a f B0 else B0).length = 3 ∧ incB (-1) P (if B0 ∈ qBl A q then swB a f B0 else B0) = true
      rw [if_pos hq]
      rcases (h.qbm B0).1 hq with rfl | rfl | rfl | rfl
      · exact hblk c1 h.nd.bf.symm h.nd.cf.symm h.nd.bc (by omega) (by omega) (by omega)
      · exact hblk c2 h.nd.df.symm h.nd.ef.symm h.nd.de (by omega) (by omega) (by omega)
      · exact hblk c3 h.nd.ab h.nd.ad h.nd.bd (by omega) (by omega) (by omega)
      · exact hblk c4 h.nd.ac h.nd.ae h.nd.ce (by omega) (by omega) (by omega)
    · show (if B0 ∈ qBl A q then swB a f B0 else B0).length = 3 ∧ incB (-1) P (if B0 ∈ qBl A q then swB a f B0 else B0) = true
      rw [if_neg hq]
      exact ⟨hT.three _ hB0, hD.inc _ hB0⟩
  · have e0 := hT.par x y hxy hy
    rw [parF_perm p2, parF_app] at e0
    rw [parF_perm p1, parF_app, ← e0, parF_perm h.qb, parF_perm (h.qb.map (swB a f))]
    rw [show [xat A i, xat A j, xat A k, xat A l].map (swB a f) = [swB a f (xat A i), swB a f (xat A j), swB a f (xat A k), swB a f (xat A l)] from rfl,
      four_par h.nd h.b1 h.b2 h.b3 h.b4 c1 c2 c3 c4 (show x ≠ y by omega)]
end
end Go.Proofs.YtegmjlblehjccaaGreat
end

section
/- Plain: a switched quadrilateral can be switched back. -/
namespace Go.Proofs.YtegmjlblehjccaaGreat
set_option linter.unusedSimpArgs false
set_option linter.unusedVariables false
open Go

section
variable {P : Nat} {A : List (List Int)} {q : List Int} {i j k l a b c d e f : Nat}
/-- two blocks with two common points are the same -/
theorem TS.uniq (hT : TS P A) {B C : List Int} (hB : B ∈ A) (hC : C ∈ A) {x y : Nat} (hxy : x ≠ y) (h1 : (x : Int) ∈ B) (h2 : (y : Int) ∈ B) (h3 : (x : Int) ∈ C) (h4 : (y : Int) ∈ C) : B = C := by
  have hlt : ∀ u : Nat, (u : Int) ∈ B → u < P := fun u hu => by
    obtain ⟨m, hm, e⟩ := List.getElem_of_mem hu
    have := (hT.inc hB).bd m hm
    rw [nth_eq hm, e] at this; omega
  obtain ⟨t, _, _, hu⟩ := hT.one (hlt x h1) (hlt y h2) hxy
  obtain ⟨m, hm, rfl⟩ := List.getElem_of_mem hB
  obtain ⟨n, hn, rfl⟩ := List.getElem_of_mem hC
  have e1 := hu m hm (by rw [xat_eq hm]; exact h1) (by rw [xat_eq hm]; exact h2)
  have e2 := hu n hn (by rw [xat_eq hn]; exact h3) (by rw [xat_eq hn]; exact h4)
  have : m = n := by omega
  subst this; rfl
theorem leL_hd {B C : List Int} (hB : 0 < B.length) (hC : 0 < C.length) (h : leL B C = true) : nth B 0 ≤ nth C 0 := by
  match B, C with
  | x :: r, y :: s =>
    show x ≤ y
    have h1 : cmpI (x :: r) (y :: s) ≤ 0 := of_decide_eq_true h
    rw [cmpI] at h1
    by_cases h2 : x < y
    · omega
    · rw [if_neg h2] at h1
      by_cases h3 : y < x
      · rw [if_pos h3] at h1; omega
      · omega
theorem Inc.hd {B : List Int} (h : Inc P B) {z : Int} (hz : z ∈ B) : nth B 0 ≤ z := by
  obtain ⟨m, hm, rfl⟩ := List.getElem_of_mem hz
  rw [← nth_eq hm]
  rcases Nat.eq_zero_or_pos m with rfl | h0
  · omega
  · have := h.lt 0 m h0 hm; omega
/-- the first point of the first block is the least of the six -/
theorem Pas.low (hT : TS P A) (h : Pas A q i j k l a b c d e f) : ∃ x : Nat, (x : Int) = nth (xat A (nth q 0).toNat) 0 ∧ (x = a ∨ x = b ∨ x = c ∨ x = d ∨ x = e ∨ x = f) ∧ x ≤ a ∧ x ≤ b ∧ x ≤ c ∧ x ≤ d ∧ x ≤ e ∧ x ≤ f := by
  have hl := h.ql
  have hs := srtB_pw.1 (dOk_t hT.ok).srt
  have h0 : nth q 0 ∈ q := nth_mem (by omega)
  obtain ⟨s, hs', es⟩ : ∃ s : Nat, s < A.length ∧ nth q 0 = s := by
    have := (h.mem _).1 h0
    have a1 := h.li
    have a2 := h.lj
    have a3 := h.lk
    have a4 := h.ll
    rcases this with e | e | e | e
    · exact ⟨_, a1, e⟩
    · exact ⟨_, a2, e⟩
    · exact ⟨_, a3, e⟩
    · exact ⟨_, a4, e⟩
  have hmin : ∀ t : Nat, (t : Int) ∈ q → s ≤ t := fun t ht => by
    obtain ⟨m, hm, e⟩ := List.getElem_of_mem ht
    rcases Nat.eq_zero_or_pos m with rfl | h1
    · rw [nth_eq hm] at es; omega
    · have := List.pairwise_iff_getElem.1 h.inc 0 m (by omega) hm h1
      rw [nth_eq (by omega)] at es; omega
  have hle : ∀ t : Nat, t < A.length → (t : Int) ∈ q → ∀ z : Int, z ∈ xat A t → nth (xat A s) 0 ≤ z := fun t ht hq z hz => by
    have i1 := (hT.inc (xat_mem ht)).hd hz
    have := hmin t hq
    rcases Nat.eq_or_lt_of_le this with e | hlt
    · subst e; exact i1
    · have h2 := List.pairwise_iff_getElem.1 hs s t hs' ht hlt
      rw [← xat_eq hs', ← xat_eq ht] at h2
      have l1 := hT.three _ (xat_mem hs')
      have l2 := hT.three _ (xat_mem ht)
      have := leL_hd (by omega) (by omega) h2
      omega
  have l1 := hT.three _ (xat_mem hs')
  have hm := nth_mem (show 0 < (xat A s).length by omega)
  obtain ⟨x, hx, _⟩ := (hT.inc (xat_mem hs')).nat (i := 0) (by omega)
  have qi := (h.mem (i : Int)).2 (by omega)
  have qj := (h.mem (j : Int)).2 (by omega)
  have qk := (h.mem (k : Int)).2 (by omega)
  have v1 := hle i h.li qi a ((h.b1 a).2 (by omega))
  have v2 := hle i h.li qi b ((h.b1 b).2 (by omega))
  have v3 := hle i h.li qi c ((h.b1 c).2 (by omega))
  have v4 := hle j h.lj qj d ((h.b2 d).2 (by omega))
  have v5 := hle j h.lj qj e ((h.b2 e).2 (by omega))
  have v6 := hle k h.lk qk f ((h.b3 f).2 (by omega))
  rw [es]
  refine ⟨x, by simpa using hx.symm, ?_, by omega, by omega, by omega, by omega, by omega, by omega⟩
  rw [hx] at hm
  rcases (h.mem s).1 (es ▸ h0) with e1 | e1 | e1 | e1
  · have : s = i := by omega
    subst this; have := (h.b1 _).1 hm; omega
  · have : s = j := by omega
    subst this; have := (h.b2 _).1 hm; omega
  · have : s = k := by omega
    subst this; have := (h.b3 _).1 hm; omega
  · have : s = l := by omega
    subst this; have := (h.b4 _).1 hm; omega
/-- with the least point ahead -/
theorem Pas.first (hT : TS P A) (h : Pas A q i j k l a b c d e f) : ∃ i j k l a b c d e f : Nat, Pas A q i j k l a b c d e f ∧ (a : Int) = nth (xat A (nth q 0).toNat) 0 ∧ a < b ∧ a < c ∧ a < d ∧ a < e ∧ a < f := by
  obtain ⟨x, hx, h6, hl⟩ := h.low hT
  obtain ⟨i', j', k', l', b', c', d', e', f', h', hz⟩ := h.at h6
  have hle : ∀ z, (z = x ∨ z = b' ∨ z = c' ∨ z = d' ∨ z = e' ∨ z = f') → x ≤ z := fun z hz' => by
    have := (hz z).2 hz'
    clear hz hx h' h hT h6
    omega
  clear hl h6
  exact ⟨i', j', k', l', x, b', c', d', e', f', h', hx, Nat.lt_of_le_of_ne (hle b' (by simp)) h'.nd.ab, Nat.lt_of_le_of_ne (hle c' (by simp)) h'.nd.ac, Nat.lt_of_le_of_ne (hle d' (by simp)) h'.nd.ad, Nat.lt_of_le_of_ne (hle e' (by simp)) h'.nd.ae, Nat.lt_of_le_of_ne (hle f' (by simp)) h'.nd.af⟩
theorem exP_exP (x y z : Int) : exP x y (exP x y z) = z := by
  unfold exP
  by_cases h1 : z = x
  · rw [if_pos h1]
    by_cases h2 : y = x
    · rw [if_pos h2]; omega
    · rw [if_neg h2, if_pos rfl]; omega
  · rw [if_neg h1]
    by_cases h2 : z = y
    · rw [if_pos h2, if_pos rfl]; omega
    · rw [if_neg h2, if_neg h1, if_neg h2]
theorem upF_mem {B : List Int} (hB : incB (-1) 32 B = true) : upF (fun z => decide (z ∈ B)) 0 32 = B := by
  have := IsSet.eq (a := B) hB
  rw [← this]
  congr 1
  funext z
  rw [this, ce]
theorem swB_swB {B : List Int} {x y : Int} (hB : incB (-1) 32 B = true) (hx : 0 ≤ x ∧ x < 32) (hy : 0 ≤ y ∧ y < 32) : swB x y (swB x y B) = B := by
  have hb : ∀ t ∈ B, 0 ≤ t ∧ t < 32 := fun t ht => by have := incB_gt hB t ht; omega
  rw [← upF_mem hB]
  show upF _ 0 32 = _
  congr 1
  funext z
  rw [upF_mem hB, decide_eq_decide, swB_mem hb hx hy, exP_exP]
/-- the switched quadrilateral is one, and leads back -/
theorem Pas.back (hT : TS P A) (h : Pas A q i j k l a b c d e f) (hlo : a < b ∧ a < c ∧ a < d ∧ a < e ∧ a < f) : ∃ (q' : List Int) (i' j' k' l' : Nat), Pas (srtL (swQ A q a f)) q' i' j' k' l' a b d c e f ∧ (a : Int) = nth (xat (srtL (swQ A q a f)) (nth q' 0).toNat) 0 ∧ srtL (swQ (srtL (swQ A q a f)) q' a f) = A := by
  have hT2 := h.ts hT
  have hin : ∀ B ∈ A, ∀ t ∈ B, 0 ≤ t ∧ t < (P : Int) := fun B hB t ht => by have := incB_gt ((dOk_t hT.ok).inc _ hB) t ht; omega
  have hP := hT.p32
  have hin2 : ∀ B ∈ A, ∀ t ∈ B, 0 ≤ t ∧ t < (32 : Int) := fun B hB t ht => by have := hin B hB t ht; omega
  have hin3 : ∀ B ∈ A, incB (-1) 32 B = true := fun B hB => incB_of (fun t ht => by have := hin2 B hB t ht; omega) (incB_pw ((dOk_t hT.ok).inc _ hB))
  have m1 := xat_mem h.li
  have m2 := xat_mem h.lj
  have m3 := xat_mem h.lk
  have m4 := xat_mem h.ll
  have ha := hin2 _ m1 a h.b1.m1
  have hf := hin2 _ m3 f h.b3.m1
  have c1 := h.b1.sw (f := f) (hin2 _ m1) (by omega) h.nd.ab h.nd.ac h.nd.bf.symm h.nd.cf.symm
  have c2 := h.b2.sw (f := f) (hin2 _ m2) (by omega) h.nd.ad h.nd.ae h.nd.df.symm h.nd.ef.symm
  have c3 := h.b3.sw2 (a := a) (hin2 _ m3) (by omega) h.nd.ab h.nd.ad h.nd.bf.symm h.nd.df.symm
  have c4 := h.b4.sw2 (a := a) (hin2 _ m4) (by omega) h.nd.ac h.nd.ae h.nd.cf.symm h.nd.ef.symm
  have hmem : ∀ B ∈ A, B ∈ qBl A q → swB a f B ∈ srtL (swQ A q a f) := fun B hB hq => (srtL_perm _).mem_iff.2 (List.mem_map.2 ⟨B, hB, if_pos hq⟩)
  obtain ⟨I1, hI1, E1⟩ := List.getElem_of_mem (hmem _ m1 ((h.qbm _).2 (by simp)))
  obtain ⟨I2, hI2, E2⟩ := List.getElem_of_mem (hmem _ m2 ((h.qbm _).2 (by simp)))
  obtain ⟨I3, hI3, E3⟩ := List.getElem_of_mem (hmem _ m3 ((h.qbm _).2 (by simp)))
  obtain ⟨I4, hI4, E4⟩ := List.getElem_of_mem (hmem _ m4 ((h.qbm _).2 (by simp)))
  rw [← xat_eq hI1] at E1
  rw [← xat_eq hI2] at E2
  rw [← xat_eq hI3] at E3
  rw [← xat_eq hI4] at E4
  have hq' : Pas (srtL (swQ A q a f)) (upF (fun z => decide (z = I1 ∨ z = I2 ∨ z = I3 ∨ z = I4)) 0 (srtL (swQ A q a f)).length) I3 I4 I1 I2 a b d c e f :=
    ⟨hI3, hI4, hI1, hI2, by rw [E3]; exact c3, by rw [E4]; exact c4, by rw [E1]; exact c1, by rw [E2]; exact c2.re fun z => by omega, ⟨h.nd.ab, h.nd.ad, h.nd.ac, h.nd.ae, h.nd.af, h.nd.bd, h.nd.bc, h.nd.be, h.nd.bf, h.nd.cd.symm, h.nd.de, h.nd.df, h.nd.ce, h.nd.cf, h.nd.ef⟩,
      incB_pw (incB_upF (n := ((srtL (swQ A q a f)).length : Int)) _ 0 (-1) (by omega) (by omega)), fun z => by
        rw [mem_upF, decide_eq_true_eq]; omega⟩
  refine ⟨_, _, _, _, _, hq', ?_, ?_⟩
  · obtain ⟨x, hx, h6, hl⟩ := hq'.low hT2
    rw [← hx]; omega
  · have hg : ∀ B ∈ A, (fun C => if C ∈ qBl (srtL (swQ A q a f)) (upF (fun z => decide (z = I1 ∨ z = I2 ∨ z = I3 ∨ z = I4)) 0 (srtL (swQ A q a f)).length) then swB a f C else C) (if B ∈ qBl A q then swB a f B else B) = B := fun B hB => by
      show (if _ ∈ _ then _ else _) = B
      by_cases hq : B ∈ qBl A q
      · rw [if_pos hq, if_pos, swB_swB (hin3 B hB) ha hf]
        rw [hq'.qbm, E1, E2, E3, E4]
        rcases (h.qbm B).1 hq with rfl | rfl | rfl | rfl <;> simp
      · rw [if_neg hq, if_neg]
        intro hc
        rw [hq'.qbm, E1, E2, E3, E4] at hc
        refine hq ((h.qbm B).2 ?_)
        rcases hc with rfl | rfl | rfl | rfl
        · exact .inr (.inr (.inl (hT.uniq hB m3 h.nd.bd c3.m2 c3.m3 h.b3.m2 h.b3.m3)))
        · exact .inr (.inr (.inr (hT.uniq hB m4 h.nd.ce c4.m2 c4.m3 h.b4.m2 h.b4.m3)))
        · exact .inl (hT.uniq hB m1 h.nd.bc c1.m2 c1.m3 h.b1.m2 h.b1.m3)
        · exact .inr (.inl (hT.uniq hB m2 h.nd.de c2.m2 c2.m3 h.b2.m2 h.b2.m3))
    have hp : (swQ (srtL (swQ A q a f)) (upF (fun z => decide (z = I1 ∨ z = I2 ∨ z = I3 ∨ z = I4)) 0 (srtL (swQ A q a f)).length) a f).Perm A := by
      refine ((srtL_perm (swQ A q a f)).map (fun C => if C ∈ qBl (srtL (swQ A q a f)) (upF (fun z => decide (z = I1 ∨ z = I2 ∨ z = I3 ∨ z = I4)) 0 (srtL (swQ A q a f)).length) then swB a f C else C)).trans ?_
      rw [swQ, List.map_map]
      refine List.Perm.of_eq ((List.map_congr_left fun B hB => ?_).trans (List.map_id A))
      exact hg B hB
    rw [srtL_congr hp, srtL_id (dOk_t hT.ok).srt]
end
end Go.Proofs.YtegmjlblehjccaaGreat
end

section
/- Walks: a list found by halves, and put into a list of lists, of the reference. -/
namespace Go.Proofs.YtegmjlblehjccaaGreat
set_option linter.unusedSimpArgs false
set_option linter.unusedVariables false
open Go.RowKit
attribute [local go_sem ↓] Go.wp_at_zero Go.wp_at_succ

/-- strictly ascending -/
def StrA (A : List (List Int)) : Prop := A.Pairwise fun a b => cmpI a b < 0
/-- what a search by halves tells -/
def FndP (A : List (List Int)) (p : List Int) (at' : Nat) (b : Bool) : Prop :=
  at' ≤ A.length ∧ (b = true → at' < A.length ∧ xat A at' = p) ∧ (b = false → StrA A → (∀ j, j < at' → cmpI (xat A j) p < 0) ∧ ∀ j, at' ≤ j → j < A.length → 0 < cmpI (xat A j) p)
def GivesF (w : World) (A : List (List Int)) (p : List Int) (e : Ending) (w' : World) : Prop := ∃ (at' : Nat) (b : Bool), e = .returned (.tuple #[.int .i64 at', .bool b]) ∧ FndP A p at' b ∧ St w.heap.size w w' []
theorem cmpI_tlt {a b c : List Int} (h1 : cmpI a b < 0) (h2 : cmpI b c < 0) : cmpI a c < 0 := by
  have h3 := cmpI_trans (a := a) (b := b) (c := c) (by omega) (by omega)
  have h4 : cmpI a c ≠ 0 := fun e => by
    have := cmpI_eq e
    subst this
    have := cmpI_neg a b
    omega
  omega
theorem StrA.at' {A : List (List Int)} (h : StrA A) {i j : Nat} (hij : i < j) (hj : j < A.length) : cmpI (xat A i) (xat A j) < 0 := by
  have := List.pairwise_iff_getElem.1 h i j (by omega) hj hij
  rw [xat_eq (by omega), xat_eq hj]; exact this
theorem FndP.mem {A : List (List Int)} {p : List Int} {at' : Nat} {b : Bool} (h : FndP A p at' b) (hA : StrA A) (hp : p ∈ A) : b = true ∧ at' < A.length ∧ xat A at' = p := by
  cases b
  · obtain ⟨h1, h2⟩ := h.2.2 rfl hA
    obtain ⟨j, hj, e⟩ := List.getElem_of_mem hp
    rw [← xat_eq hj] at e
    rcases Nat.lt_or_ge j at' with hl | hg
    · have := h1 j hl
      rw [e, cmpI_self] at this; omega
    · have := h2 j hg hj
      rw [e, cmpI_self] at this; omega
  · exact ⟨rfl, h.2.1 rfl⟩
/-- a list put at its place -/
def insA (A : List (List Int)) (at' : Nat) (p : List Int) : List (List Int) := A.take at' ++ [p] ++ A.drop at'
theorem insA_mem {A : List (List Int)} {at' : Nat} {p z : List Int} : z ∈ insA A at' p ↔ z = p ∨ z ∈ A := by
  unfold insA
  have : z ∈ A ↔ z ∈ A.take at' ∨ z ∈ A.drop at' := by rw [← List.mem_append, List.take_append_drop]
  rw [this]
  simp only [List.mem_append, List.mem_singleton]
  constructor
  · rintro ((h | h) | h)
    · exact .inr (.inl h)
    · exact .inl h
    · exact .inr (.inr h)
  · rintro (h | h | h)
    · exact .inl (.inr h)
    · exact .inl (.inl h)
    · exact .inr h
theorem insA_len {A : List (List Int)} {at' : Nat} {p : List Int} (h : at' ≤ A.length) : (insA A at' p).length = A.length + 1 := by
  unfold insA; simp only [List.length_append, List.length_take, List.length_drop, List.length_singleton]; omega
set_option maxHeartbeats 8000000 in
set_option maxRecDepth 100000 in
theorem l05Find_c (v vp : Value) (us : List Value) (A : List (List Int)) (p : List Int) (w : World) (hv : RII w v us A) (hp : RdI w vp p) (hN : A.length ≤ 1000000) :
    Calls Tryz.prog 154 #[v, vp] w (GivesF w A p) := by
  have hln := hv.len
  have hix := hv.ixe
  have hS0 := St.refl w
  have KC := fun W (h : St w.heap.size w W []) j (hj : j < A.length) => Lib.hid (sCompareLists_c (vat us j) vp (xat A j) p W ((h.oldII hv).row j hj) (h.oldI hp))
  go_enter Tryz.func154, Tryz.ntmps154
  go_wp2_with fail
  go_loopw [6, 7, 8, 9] (fun lo hi _ _ wr => ∃ (l h : Nat), lo = .int .i64 l ∧ hi = .int .i64 h ∧ l ≤ h ∧ h ≤ A.length ∧ Hid (StrA A → (∀ j, j < l → cmpI (xat A j) p < 0) ∧ ∀ j, h ≤ j → j < A.length → 0 < cmpI (xat A j) p) ∧ St w.heap.size w wr []) (fun lo hi _ _ _ => (intOf hi).toNat - (intOf lo).toNat)
  case atStart => exact ⟨0, A.length, rfl, rfl, by omega, by omega, fun _ => ⟨fun j hj => by omega, fun j h1 h2 => by omega⟩, hS0⟩
  case round =>
    clear hS0
    obtain ⟨l, h, rfl, rfl, hlh, hhA, hI, hS⟩ := hrel
    by_cases hlt : l < h
    · have hli : (l : Int) < (h : Int) := by omega
      obtain ⟨m, hm⟩ : ∃ m, (l + h) / 2 = m := ⟨_, rfl⟩
      have hm1 : l ≤ m := by omega
      have hm2 : m < h := by omega
      have hmA : m < A.length := by omega
      have q1 : ((l : Int) + (h : Int)).tdiv 2 = (m : Int) := by
        rw [show (l : Int) + (h : Int) = ((l + h : Nat) : Int) by omega, Int.tdiv_eq_ediv_of_nonneg (by omega), ← hm]; rfl
      have v1 : IntKind.i64.wrap ((l : Int) + (h : Int)) = (l : Int) + (h : Int) := IntWalk.i64_in _ (by omega)
      have v2 : IntKind.i64.wrap (m : Int) = (m : Int) := IntWalk.i64_in _ (by omega)
      have v3 : IntKind.i64.wrap ((m : Int) + 1) = (m : Int) + 1 := IntWalk.i64_in _ (by omega)
      have x1 := hix (m : Int) m rfl hmA
      have c1 := (hS.oldII hv).cell m hmA
      have K := KC _ hS m hmA
      have Hst := Lib.hid (fun (hA : StrA A) j (hj : j < m) => hA.at' hj hmA)
      have Hst2 := Lib.hid (fun (hA : StrA A) j (hj : m < j) (hj2 : j < A.length) => hA.at' hj hj2)
      have Hc := Lib.hid (cmpI_3 (xat A m) p)
      have Heq := Lib.hid (fun (h : cmpI (xat A m) p = 0) => cmpI_eq h)
      obtain ⟨c, hcc⟩ : ∃ c, cmpI (xat A m) p = c := ⟨_, rfl⟩
      rw [hcc] at K
      have Hcc := Lib.hid hcc
      clear hm hcc
      rcases (show c = -1 ∨ c = 0 ∨ c = 1 by have := Hc.out; rw [Hcc.out] at this; exact this) with rfl | rfl | rfl
      · go_wp2_with fail
        refine K.out.mono ?_
        rintro e w2 ⟨rfl, h2⟩
        have hS2 := hS.call0 h2
        go_wp2_with fail
        go_roundw
        case rel => exact ⟨m + 1, h, by go_num, rfl, by omega, hhA, fun hA => ⟨fun j hj => by
          rcases Nat.lt_or_ge j m with h1 | h1
          · exact cmpI_tlt (Hst.out hA j h1) (by rw [Hcc.out]; omega)
          · obtain rfl : j = m := by omega
            rw [Hcc.out]; omega, (hI.out hA).2⟩, hS2⟩
        case measure => simp [intOf]; omega
      · go_wp2_with fail
        refine K.out.mono ?_
        rintro e w2 ⟨rfl, h2⟩
        have hS2 := hS.call0 h2
        go_wp2_with fail
        go_ret2
        exact ⟨m, true, rfl, ⟨by omega, fun _ => ⟨hmA, Heq.out Hcc.out⟩, fun h => by cases h⟩, hS2⟩
      · go_wp2_with fail
        refine K.out.mono ?_
        rintro e w2 ⟨rfl, h2⟩
        have hS2 := hS.call0 h2
        go_wp2_with fail
        go_roundw
        case rel => exact ⟨l, m, rfl, rfl, by omega, by omega, fun hA => ⟨(hI.out hA).1, fun j h1 h2 => by
          rcases Nat.lt_or_ge m j with h3 | h3
          · have k1 := Hst2.out hA j h3 h2
            have k2 := cmpI_neg (xat A m) p
            have k3 := cmpI_neg (xat A j) p
            have := cmpI_tlt (a := p) (b := xat A m) (c := xat A j) (by rw [k2, Hcc.out]; omega) k1
            omega
          · obtain rfl : j = m := by omega
            rw [Hcc.out]; omega⟩, hS2⟩
        case measure => simp [intOf]; omega
    · obtain rfl : l = h := by omega
      go_wp2_with fail
      go_ret2
      exact ⟨l, false, rfl, ⟨hhA, fun h => by (first | cases h | contradiction), fun _ hA => hI.out hA⟩, hS⟩
/-- it hands over a header of its own -/
def MakesH (w : World) (us : List Value) (e : Ending) (w' : World) : Prop := ∃ v, e = .returned v ∧ St w.heap.size w w' [row 30 v us]
theorem RII.ones {w : World} {v : Value} {us : List Value} {A : List (List Int)} (h : RII w v us A) : ∀ u ∈ us, u.oneCell' = true := fun u hu => by
  obtain ⟨j, hj, rfl⟩ := List.getElem_of_mem hu
  rw [← vat_eq hj]
  exact (h.row j (by rw [← h.2.1]; exact hj)).sl.one
theorem ins_getD {α : Type} (d p : α) (l : List α) {m : Nat} (hm : m ≤ l.length) (j : Nat) : (l.take m ++ [p] ++ l.drop m).getD j d = if j < m then l.getD j d else if j = m then p else l.getD (j - 1) d := by
  have ll : (l.take m).length = m := by rw [List.length_take]; omega
  rw [List.getD_eq_getElem?_getD, List.append_assoc]
  by_cases h1 : j < m
  · rw [if_pos h1, List.getElem?_append_left (by omega), List.getElem?_take_of_lt h1, List.getD_eq_getElem?_getD]
  · rw [if_neg h1, List.getElem?_append_right (by omega), ll]
    by_cases h2 : j = m
    · rw [if_pos h2, h2, Nat.sub_self]; rfl
    · rw [if_neg h2]
      obtain ⟨e, rfl⟩ : ∃ e, j = m + (e + 1) := ⟨j - m - 1, by omega⟩
      rw [show m + (e + 1) - m = e + 1 by omega, List.singleton_append, List.getElem?_cons_succ, List.getElem?_drop, List.getD_eq_getElem?_getD]
      congr 2
theorem MakesH.rii {w w' : World} {v vp v' : Value} {us : List Value} {A : List (List Int)} {p : List Int} {m : Nat} (hv : RII w v us A) (hp : RdI w vp p) (hm : m ≤ A.length)
    (hS : St w.heap.size w w' [row 30 v' (us.take m ++ [vp] ++ us.drop m)]) : RII w' v' (us.take m ++ [vp] ++ us.drop m) (insA A m p) := by
  have hl := hv.2.1
  have hv' := hS.oldII hv
  have hp' := hS.oldI hp
  refine ⟨hS.rd 0 rfl, by rw [insA_len hm]; simp only [List.length_append, List.length_take, List.length_drop, List.length_singleton]; omega, fun j hj => ?_⟩
  rw [insA_len hm] at hj
  unfold insA vat xat
  rw [ins_getD _ _ _ (by omega), ins_getD _ _ _ hm]
  by_cases h1 : j < m
  · rw [if_pos h1, if_pos h1]; exact hv'.row j (by omega)
  · rw [if_neg h1, if_neg h1]
    by_cases h2 : j = m
    · rw [if_pos h2, if_pos h2]; exact hp'
    · rw [if_neg h2, if_neg h2]; exact hv'.row (j - 1) (by omega)
set_option maxHeartbeats 4000000 in
set_option maxRecDepth 100000 in
theorem l05Put_c (v vp : Value) (us : List Value) (A : List (List Int)) (p : List Int) (m : Nat) (w : World) (hv : RII w v us A) (hp : RdI w vp p) (hm : m ≤ A.length) (hN : A.length ≤ 1000000) :
    Calls Tryz.prog 155 #[v, .int .i64 m, vp] w (MakesH w (us.take m ++ [vp] ++ us.drop m)) := by
  have hl := hv.2.1
  obtain ⟨pa, pc, hpe⟩ := hp.sl.sh
  generalize (iv p).length = pl at hpe
  subst hpe
  have hone := Lib.hid hv.ones
  have hsl := rslII_hi hv.1 m (by omega)
  have hsl2 := rslII_lo2 hv.1 m (by omega)
  have hS1 : St w.heap.size w _ [row 30 (.slice (some ⟨w.heap.size, 0, none⟩) 0 0) []] := (St.refl w).new 30 #[] (by simp)
  have hr2 := rsl_Rd ((hS1.oldII hv).1) (lo := 0) (hi := m) (Nat.zero_le m) (by omega)
  have hR2 := Lib.hid hr2
  have R2 := Lib.hid (fun W L (h : St w.heap.size w W L) => rsl_Rd (h.oldII hv).1 (lo := m) (hi := us.length) (by omega) (Nat.le_refl _))
  have HL := Lib.hid (show ((us.take m).drop 0).length = m by rw [List.drop_zero, List.length_take]; omega)
  have HD := Lib.hid (show us.length ≤ 1000000 by omega)
  have HT := Lib.hid (show us.take us.length = us from List.take_length)
  obtain ⟨R, hR⟩ : ∃ R, R = us.take m ++ [Value.slice pa pl pc] ++ us.drop m := ⟨_, rfl⟩
  rw [← hR]
  have HR := Lib.hid hR
  clear hl hR hr2
  go_enter Tryz.func155, Tryz.ntmps155
  go_wp2_with (first
    | (at_builtin; refine appsII2 hS6 0 rfl _ _ (R2.out _ _ hS6) (fun u hu => hone.out u (List.mem_of_mem_take (List.mem_of_mem_drop hu))) (by have h1 := HL.out; have h2 := HD.out; simp only [List.length_append, List.length_singleton, List.nil_append] at *; rw [h1, List.length_drop, List.length_take]; omega) rfl _ _ rfl rfl rfl ?_; intro v7 w7 hS7)
    | (at_builtin; refine appII hS5 0 rfl (by have h1 := HL.out; have h2 := HD.out; simp only [List.nil_append]; rw [h1]; omega) rfl _ _ rfl rfl _ rfl (by first | rfl | simp [Act.eval, World.size_alloc]) ?_; intro v6 w6 hS6; simp only [List.set_cons_zero] at hS6)
    | (at_builtin; refine appsII2 hS1 0 rfl _ _ hR2.out (fun u hu => hone.out u (List.mem_of_mem_take (List.mem_of_mem_drop hu))) (by have h1 := HL.out; have h2 := HD.out; simp only [List.length_nil]; rw [h1]; omega) rfl _ _ rfl rfl rfl ?_; intro v5 w5 hS5; simp only [List.set_cons_zero] at hS5))
  simp only [List.set_cons_zero] at hS7
  rw [List.nil_append, List.drop_zero, HT.out, ← HR.out] at hS7
  go_ret
  exact ⟨v7, rfl, hS7⟩
end Go.Proofs.YtegmjlblehjccaaGreat
end

section
/- Plain: the product of a triple system with the one of order 3. -/
namespace Go.Proofs.YtegmjlblehjccaaGreat
set_option linter.unusedSimpArgs false
set_option linter.unusedVariables false
open Go

theorem putL_incT : ∀ {xs : List Int} {l n x : Int}, incB l n xs = true → l < x → x < n → incB l n (putL xs x) = true
  | [], l, n, x, _, h1, h2 => by rw [putL, incB, if_neg (by omega)]; rfl
  | a :: r, l, n, x, h, h1, h2 => by
    rw [incB] at h
    by_cases hc : a ≤ l ∨ n ≤ a
    · rw [if_pos hc] at h; cases h
    · rw [if_neg hc] at h
      rw [putL]
      split
      · rw [incB, if_neg (by omega), incB, if_neg (by omega)]; exact h
      · split
        · rw [incB, if_neg (by omega)]; exact h
        · rw [incB, if_neg (by omega)]; exact putL_incT h (by omega) h2
theorem trp_B (a b c : Nat) : IsB (trp a b c) a b c := fun z => by
  unfold trp
  rw [putL_mem, putL_mem]
  simp only [List.mem_singleton]
  omega
theorem trp_ok {P a b c : Nat} (ha : a < P) (hb : b < P) (hc : c < P) (h1 : a ≠ b) (h2 : a ≠ c) (h3 : b ≠ c) : (trp a b c).length = 3 ∧ incB (-1) P (trp a b c) = true := by
  have hi : incB (-1) P (trp a b c) = true := by
    unfold trp
    refine putL_incT (putL_incT ?_ (by omega) (by omega)) (by omega) (by omega)
    rw [incB, if_neg (by omega)]; rfl
  exact ⟨(trp_B a b c).len (incB_pw hi) h1 h2 h3, hi⟩
/-- points of the second system on a block of the first one -/
def pats : List (Nat × Nat × Nat) := [(0, 0, 0), (1, 1, 1), (2, 2, 2), (0, 1, 2), (0, 2, 1), (1, 0, 2), (1, 2, 0), (2, 0, 1), (2, 1, 0)]
def pdX (B : List Int) (t : Nat × Nat × Nat) : List Int := trp (3 * (nth B 0).toNat + t.1) (3 * (nth B 1).toNat + t.2.1) (3 * (nth B 2).toNat + t.2.2)
def pdB (B : List Int) : List (List Int) := pats.map (pdX B)
def pdF (x : Nat) : List Int := trp (3 * x) (3 * x + 1) (3 * x + 2)
def pdL (P : Nat) (A : List (List Int)) : List (List Int) := A.flatMap pdB ++ (List.range P).map pdF
/-- which point of a block -/
def cdB (x y z u : Nat) : Nat := if u = x then 0 else if u = y then 1 else if u = z then 2 else 3
def hit (c r : Nat) (t : Nat × Nat × Nat) : Bool := if c = 0 then r == t.1 else if c = 1 then r == t.2.1 else if c = 2 then r == t.2.2 else false
def cntT (c r d s : Nat) : List (Nat × Nat × Nat) → Int
  | [] => 0
  | t :: l => (if hit c r t = true ∧ hit d s t = true then 1 else 0) + cntT c r d s l
theorem pats_cnt : ∀ c ∈ List.range 4, ∀ r ∈ List.range 3, ∀ d ∈ List.range 4, ∀ s ∈ List.range 3, (c = d ∧ r = s) ∨ cntT c r d s pats = if c ≠ d ∧ c < 3 ∧ d < 3 then 1 else 0 := by decide
theorem pats_lt : ∀ t ∈ pats, t.1 < 3 ∧ t.2.1 < 3 ∧ t.2.2 < 3 := by decide
theorem hit_iff {x y z u r : Nat} {t : Nat × Nat × Nat} (ht : t.1 < 3 ∧ t.2.1 < 3 ∧ t.2.2 < 3) (hr : r < 3) (h1 : x ≠ y) (h2 : x ≠ z) (h3 : y ≠ z) : (3 * u + r = 3 * x + t.1 ∨ 3 * u + r = 3 * y + t.2.1 ∨ 3 * u + r = 3 * z + t.2.2) ↔ hit (cdB x y z u) r t = true := by
  obtain ⟨t1, t2, t3⟩ := t
  unfold hit cdB
  dsimp only at ht ⊢
  by_cases e1 : u = x
  · rw [if_pos e1, if_pos rfl, beq_iff_eq]; omega
  · rw [if_neg e1]
    by_cases e2 : u = y
    · rw [if_pos e2, if_neg (by decide), if_pos rfl, beq_iff_eq]; omega
    · rw [if_neg e2]
      by_cases e3 : u = z
      · rw [if_pos e3, if_neg (by decide), if_neg (by decide), if_pos rfl, beq_iff_eq]; omega
      · rw [if_neg e3, if_neg (by decide), if_neg (by decide), if_neg (by decide)]
        constructor
        · intro h; omega
        · intro h; cases h
theorem cnt_pd {x y z u v r s : Nat} (hr : r < 3) (hs : s < 3) (h1 : x ≠ y) (h2 : x ≠ z) (h3 : y ≠ z) : ∀ l : List (Nat × Nat × Nat), (∀ t ∈ l, t.1 < 3 ∧ t.2.1 < 3 ∧ t.2.2 < 3) → parF (l.map (pdX [(x : Int), (y : Int), (z : Int)])) (3 * u + r) (3 * v + s) = cntT (cdB x y z u) r (cdB x y z v) s l
  | [], _ => rfl
  | t :: l, h => by
    rw [List.map_cons, parF_cons, cnt_pd hr hs h1 h2 h3 l fun t ht => h t (List.mem_cons_of_mem _ ht), cntT]
    have ht := h t (List.mem_cons_self ..)
    congr 1
    have hb : IsB (pdX [(x : Int), (y : Int), (z : Int)] t) (3 * x + t.1) (3 * y + t.2.1) (3 * z + t.2.2) := trp_B _ _ _
    rw [ind2_B hb]
    have i1 := hit_iff (u := u) ht hr h1 h2 h3
    have i2 := hit_iff (u := v) ht hs h1 h2 h3
    by_cases hc : hit (cdB x y z u) r t = true ∧ hit (cdB x y z v) s t = true
    · rw [if_pos hc, if_pos ⟨i1.2 hc.1, i2.2 hc.2⟩]
    · rw [if_neg hc, if_neg fun q => hc ⟨i1.1 q.1, i2.1 q.2⟩]
theorem cdB_lt (x y z u : Nat) : cdB x y z u < 4 := by unfold cdB; split <;> (try split) <;> (try split) <;> omega
theorem cdB_inv (x y z u : Nat) : (cdB x y z u = 0 → u = x) ∧ (cdB x y z u = 1 → u = y) ∧ (cdB x y z u = 2 → u = z) := by
  unfold cdB
  by_cases h1 : u = x
  · rw [if_pos h1]; exact ⟨fun _ => h1, (fun h => by cases h), (fun h => by cases h)⟩
  · rw [if_neg h1]
    by_cases h2 : u = y
    · rw [if_pos h2]; exact ⟨(fun h => by cases h), fun _ => h2, (fun h => by cases h)⟩
    · rw [if_neg h2]
      by_cases h3 : u = z
      · rw [if_pos h3]; exact ⟨(fun h => by cases h), (fun h => by cases h), fun _ => h3⟩
      · rw [if_neg h3]; exact ⟨(fun h => by cases h), (fun h => by cases h), (fun h => by cases h)⟩
theorem pdB_par {x y z u v r s : Nat} (hr : r < 3) (hs : s < 3) (h1 : x ≠ y) (h2 : x ≠ z) (h3 : y ≠ z) (hne : u ≠ v ∨ r ≠ s) : parF (pdB [(x : Int), (y : Int), (z : Int)]) (3 * u + r) (3 * v + s) = if u ≠ v then ind2 [(x : Int), (y : Int), (z : Int)] u v else 0 := by
  unfold pdB
  rw [cnt_pd hr hs h1 h2 h3 pats pats_lt]
  have hb : IsB [(x : Int), (y : Int), (z : Int)] x y z := fun t => by simp
  rw [ind2_B hb]
  have key := pats_cnt _ (List.mem_range.2 (cdB_lt x y z u)) r (List.mem_range.2 hr) _ (List.mem_range.2 (cdB_lt x y z v)) s (List.mem_range.2 hs)
  have hd : ∀ w : Nat, (cdB x y z w < 3 ↔ (w = x ∨ w = y ∨ w = z)) := fun w => by
    unfold cdB; split <;> (try split) <;> (try split) <;> omega
  have hinj : cdB x y z u = cdB x y z v → cdB x y z u < 3 → u = v := fun e hl => by
    rcases (show cdB x y z u = 0 ∨ cdB x y z u = 1 ∨ cdB x y z u = 2 by omega) with q | q | q
    · rw [(cdB_inv x y z u).1 q, (cdB_inv x y z v).1 (e ▸ q)]
    · rw [(cdB_inv x y z u).2.1 q, (cdB_inv x y z v).2.1 (e ▸ q)]
    · rw [(cdB_inv x y z u).2.2 q, (cdB_inv x y z v).2.2 (e ▸ q)]
  rcases key with ⟨e1, e2⟩ | key
  · by_cases huv : u = v
    · exact absurd e2 (by omega)
    · rw [if_pos huv]
      by_cases hc : cdB x y z u < 3
      · exact absurd (hinj e1 hc) huv
      · rw [if_neg (fun q => hc ((hd u).2 q.1))]
        have h3' : cdB x y z u = 3 := by have := cdB_lt x y z u; omega
        rw [← e1, h3', ← e2]
        have : ∀ r ∈ List.range 3, cntT 3 r 3 r pats = 0 := by decide
        exact this r (List.mem_range.2 hr)
  · rw [key]
    by_cases huv : u = v
    · subst huv
      rw [if_neg (by simp), if_neg (by simp)]
    · rw [if_pos huv]
      by_cases hc : (u = x ∨ u = y ∨ u = z) ∧ (v = x ∨ v = y ∨ v = z)
      · have c1 := (hd u).2 hc.1
        rw [if_pos hc, if_pos ⟨fun e => huv (hinj e c1), c1, (hd v).2 hc.2⟩]
      · rw [if_neg hc, if_neg fun q => hc ⟨(hd u).1 q.2.1, (hd v).1 q.2.2⟩]
theorem pdA_par {P u v r s : Nat} (hr : r < 3) (hs : s < 3) (hne : u ≠ v ∨ r ≠ s) : ∀ {A : List (List Int)}, (∀ B ∈ A, Inc P B ∧ B.length = 3) → parF (A.flatMap pdB) (3 * u + r) (3 * v + s) = if u ≠ v then parF A u v else 0
  | [], _ => by
    rw [List.flatMap_nil]
    show (0 : Int) = _
    split
    · rfl
    · rfl
  | B :: A, h => by
    rw [List.flatMap_cons, parF_app, pdA_par hr hs hne (A := A) fun C hC => h C (List.mem_cons_of_mem _ hC), parF_cons]
    obtain ⟨hi, hl⟩ := h B (List.mem_cons_self ..)
    obtain ⟨x, y, z, h1, h2, h3, rfl⟩ := three_of hi hl
    rw [pdB_par hr hs (by omega) (by omega) (by omega) hne]
    split <;> simp
theorem pdF_par {u v r s : Nat} (hr : r < 3) (hs : s < 3) (hne : u ≠ v ∨ r ≠ s) : ∀ k : Nat, parF ((List.range k).map pdF) (3 * u + r) (3 * v + s) = if u = v ∧ u < k then 1 else 0
  | 0 => by rw [if_neg (by omega)]; rfl
  | k + 1 => by
    rw [List.range_succ, List.map_append, parF_app, pdF_par hr hs hne k, List.map_singleton, parF_cons]
    have hb : IsB (pdF k) (3 * k) (3 * k + 1) (3 * k + 2) := trp_B _ _ _
    rw [ind2_B hb]
    show _ + (_ + (0 : Int)) = _
    by_cases e : u = v
    · subst e
      by_cases h1 : u < k
      · rw [if_pos ⟨rfl, h1⟩, if_neg (by omega), if_pos ⟨rfl, by omega⟩]; rfl
      · rw [if_neg (by omega)]
        by_cases h2 : u = k
        · subst h2
          rw [if_pos (by omega), if_pos ⟨rfl, by omega⟩]; rfl
        · rw [if_neg (by omega), if_neg (by omega)]; rfl
    · rw [if_neg (by omega), if_neg (by omega), if_neg (by omega)]; rfl
section
variable {P : Nat} {A : List (List Int)}
theorem TS.few (h : TS P A) (h9 : P ≤ 9) : A.length ≤ 12 := by
  have hp := par_sum (P := P) (A := A) (fun b hb => h.inc hb)
  have h1 : ∀ l : List Int, (∀ c ∈ l, c = 1) → sumL l = l.length := fun l => by
    induction l with
    | nil => intro _; rfl
    | cons c l ih =>
      intro hc
      rw [sumL, ih fun d hd => hc d (List.mem_cons_of_mem _ hd), hc c (List.mem_cons_self ..), List.length_cons]; omega
  have h3 : ∀ l : List Int, (∀ c ∈ l, c = 3) → sumL l = 3 * l.length := fun l => by
    induction l with
    | nil => intro _; rfl
    | cons c l ih =>
      intro hc
      rw [sumL, ih fun d hd => hc d (List.mem_cons_of_mem _ hd), hc c (List.mem_cons_self ..), List.length_cons]; omega
  rw [h1 _ (fun c hc => by
    obtain ⟨x, y, hxy, hy, rfl⟩ := parL_mem.1 hc
    exact h.par x y hxy hy), h3 _ (fun c hc => by
    obtain ⟨b, hb, rfl⟩ := List.mem_map.1 hc
    rw [h.three b hb]; rfl)] at hp
  have hl : (twos A).length = A.length := by simp [twos]
  rw [hl] at hp
  have hle : ∀ p ∈ List.range 10, ((List.range p).map fun x => p - (x + 1)).sum ≤ 36 := by decide
  have hpl : (parL P A).length = ((List.range P).map fun x => P - (x + 1)).sum := by
    unfold parL
    rw [List.length_flatten, List.map_map]
    congr 1
    refine List.map_congr_left fun x _ => ?_
    simp [parR]
  have := hle P (List.mem_range.2 (by omega))
  omega
/-- the product is a triple system -/
theorem TS.prod (h : TS P A) (h9 : P ≤ 9) : TS (3 * P) (srtL (pdL P A)) := by
  have hA : ∀ B ∈ A, Inc P B ∧ B.length = 3 := fun B hB => ⟨h.inc hB, h.three B hB⟩
  have hlen : ∀ B : List Int, (pdB B).length = 9 := fun B => by simp [pdB, pats]
  refine TS.of (by have := h.p3; omega) (by omega) ?_ (fun B hB => ?_) (fun X Y hXY hY => ?_)
  · have h1 := h.few h9
    have h2 : (A.flatMap pdB).length = 9 * A.length := by
      clear h hA h1
      induction A with
      | nil => rfl
      | cons B A ih => rw [List.flatMap_cons, List.length_append, ih, hlen, List.length_cons]; omega
    unfold pdL
    rw [List.length_append, h2, List.length_map, List.length_range]
    omega
  · unfold pdL at hB
    rcases List.mem_append.1 hB with hB | hB
    · obtain ⟨C, hC, hB⟩ := List.mem_flatMap.1 hB
      obtain ⟨t, ht, rfl⟩ := List.mem_map.1 hB
      obtain ⟨hi, hl⟩ := hA C hC
      obtain ⟨x, y, z, h1, h2, h3, rfl⟩ := three_of hi hl
      have := pats_lt t ht
      exact trp_ok (show 3 * x + t.1 < 3 * P by omega) (show 3 * y + t.2.1 < 3 * P by omega) (show 3 * z + t.2.2 < 3 * P by omega) (by show 3 * x + t.1 ≠ 3 * y + t.2.1; omega) (by show 3 * x + t.1 ≠ 3 * z + t.2.2; omega) (by show 3 * y + t.2.1 ≠ 3 * z + t.2.2; omega)
    · obtain ⟨x, hx, rfl⟩ := List.mem_map.1 hB
      have hx := List.mem_range.1 hx
      exact trp_ok (by omega) (by omega) (by omega) (by omega) (by omega) (by omega)
  · unfold pdL
    rw [parF_app, show X = 3 * (X / 3) + X % 3 by omega, show Y = 3 * (Y / 3) + Y % 3 by omega]
    rw [pdA_par (by omega) (by omega) (by omega) hA, pdF_par (by omega) (by omega) (by omega)]
    by_cases e : X / 3 = Y / 3
    · rw [if_neg (by omega), if_pos (by omega)]; rfl
    · rw [if_pos e, if_neg (by omega), h.par (X / 3) (Y / 3) (by omega) (by omega)]; rfl
end
end Go.Proofs.YtegmjlblehjccaaGreat
end

section
/- Walks: triples and mixed triples of the program. -/
namespace Go.Proofs.YtegmjlblehjccaaGreat
set_option linter.unusedSimpArgs false
set_option linter.unusedVariables false
open Go.RowKit
attribute [local go_sem ↓] Go.wp_at_zero Go.wp_at_succ

theorem srt_trp {a b c : Nat} (h1 : a ≠ b) (h2 : a ≠ c) (h3 : b ≠ c) : srt [(a : Int), (b : Int), (c : Int)] = trp a b c := by
  obtain ⟨hl, hi⟩ := trp_ok (P := a + b + c + 1) (by omega) (by omega) (by omega) h1 h2 h3
  have hp := incB_pw hi
  refine sorted_eq ((srt_perm _).trans ?_) (msort_sorted _) (hp.imp fun h => by omega)
  refine (List.perm_ext_iff_of_nodup (by simp; omega) (hp.imp fun h => by omega)).2 fun z => ?_
  rw [trp_B a b c z]; simp
theorem triple_c (x y z : Int) (w : World) : Calls Tryz.prog 101 #[.int .i64 x, .int .i64 y, .int .i64 z] w (MakesI w (srt [x, y, z])) := by
  have hS0 : St w.heap.size w _ [row 2 (.slice (some ⟨w.heap.size, 0, none⟩) 3 3) (iv [x, y, z])] := (St.refl w).new 2 #[.int .i64 x, .int .i64 y, .int .i64 z] (by simp [maxLen])
  have hL := Lib.hid (show ([x, y, z] : List Int).length < 4611686018427387904 by simp)
  go_enter Tryz.func101, Tryz.ntmps101
  go_wp2_with fail
  refine (Sort_c hS0 0 rfl hL.out).mono ?_
  rintro e w2 ⟨rfl, h2⟩
  simp only [List.set_cons_zero] at h2
  go_wp2_with fail
  go_ret
  exact ⟨_, rfl, h2⟩
theorem mxL_succ (n : Nat) (f : Nat → Nat) (k : Nat) : mxL n f (k + 1) = mxL n f k ++ mxX n f k n := by
  unfold mxL; rw [List.range_succ, List.flatMap_append]; simp
theorem mxX_succ (n : Nat) (f : Nat → Nat) (x j : Nat) : mxX n f x (j + 1) = mxX n f x j ++ mxY n f x j := by
  unfold mxX; rw [List.range_succ, List.flatMap_append]; simp
theorem mxX_lo {n : Nat} {f : Nat → Nat} {x : Nat} : ∀ j, j ≤ x + 1 → mxX n f x j = []
  | 0, _ => rfl
  | j + 1, h => by rw [mxX_succ, mxX_lo j (by omega), mxY, if_neg (by omega)]; rfl
theorem mxX_len (n : Nat) (f : Nat → Nat) (x : Nat) : ∀ j, (mxX n f x j).length ≤ 3 * j
  | 0 => Nat.le_refl _
  | j + 1 => by
    rw [mxX_succ, List.length_append]
    have h1 := mxX_len n f x j
    have h2 : (mxY n f x j).length ≤ 3 := by unfold mxY; split <;> simp
    omega
theorem mxL_len (n : Nat) (f : Nat → Nat) : ∀ k, (mxL n f k).length ≤ k * (3 * n)
  | 0 => Nat.zero_le _
  | k + 1 => by
    rw [mxL_succ, List.length_append, Nat.succ_mul]
    have h1 := mxL_len n f k
    have h2 := mxX_len n f k n
    omega
theorem rg_succ {α : Type} (g : Nat → α) (i : Nat) : (List.range (i + 1)).map g = (List.range i).map g ++ [g i] := by
  rw [List.range_succ, List.map_append]; rfl
theorem own2_snocP {B : Nat} {w0 w : World} {v v' : Value} {us : List Value} {xss : List (List Int)} {u : Value} {xs : List Int} {L2 : List Ent} (hl : us.length = xss.length)
    (h : St B w0 w ((own2 v us xss ++ L2 ++ [row 2 u (iv xs)]).set 0 (row 30 v' (us ++ [u])))) : St B w0 w (own2 v' (us ++ [u]) (xss ++ [xs]) ++ L2) := by
  rw [own2, rowsI_app hl]
  refine h.perm ?_
  show (row 30 v' (us ++ [u]) :: (rowsI us xss ++ L2 ++ [row 2 u (iv xs)])).Perm (row 30 v' (us ++ [u]) :: (rowsI us xss ++ [row 2 u (iv xs)] ++ L2))
  refine List.Perm.cons _ ?_
  rw [List.append_assoc, List.append_assoc]
  exact List.Perm.append_left _ List.perm_append_comm
end Go.Proofs.YtegmjlblehjccaaGreat
end

section
/- Walks: the construction of Bose of the reference. -/
namespace Go.Proofs.YtegmjlblehjccaaGreat
set_option linter.unusedSimpArgs false
set_option linter.unusedVariables false
open Go.RowKit
attribute [local go_sem ↓] Go.wp_at_zero Go.wp_at_succ

theorem l11Block_c (a b c : Nat) (w : World) : Calls Tryz.prog 198 #[.int .i64 (a : Int), .int .i64 (b : Int), .int .i64 (c : Int)] w (MakesI w (trp a b c)) := by
  have hS0 : St w.heap.size w _ [row 2 (.slice (some ⟨w.heap.size, 0, none⟩) 1 1) (iv [(a : Int)])] := (St.refl w).new 2 #[.int .i64 a] (by simp [maxLen])
  have hP := fun v W (h : RdI W v [(a : Int)]) => Lib.hid (l00PutX_c v [(a : Int)] b W h (by simp))
  have hQ := fun v W (h : RdI W v (putL [(a : Int)] b)) => Lib.hid (l00PutX_c v (putL [(a : Int)] b) c W h (by have := putL_len [(a : Int)] b; simp at this; omega))
  have HT := Lib.hid (show trp a b c = putL (putL [(a : Int)] b) c from rfl)
  generalize putL [(a : Int)] b = X at *
  generalize putL X c = Y at *
  go_enter Tryz.func198, Tryz.ntmps198
  go_wp2_with fail
  refine (hP _ _ (hS0.rdI 0 rfl)).out.mono ?_
  rintro e w2 ⟨v2, rfl, h2⟩
  have hS2 := hS0.call h2
  go_wp2_with fail
  refine (hQ _ _ (hS2.rdI 1 rfl)).out.mono ?_
  rintro e w3 ⟨v3, rfl, h3⟩
  have hS3 := hS2.call h3
  go_wp2_with fail
  go_ret
  exact ⟨v3, rfl, by rw [HT.out]; exact hS3.sub (List.sublist_append_right _ _)⟩
theorem bosX_succ (t x j : Nat) : bosX t x (j + 1) = bosX t x j ++ mxY (2 * t + 1) (bosF t) x j := by
  unfold bosX; rw [mxX_succ]; rfl
theorem bosL_succ (t k : Nat) : bosL t (k + 1) = bosL t k ++ bosX t k (2 * t + 1) := by
  unfold bosL; rw [List.range_succ, List.flatMap_append]; simp
theorem bosL_len (t : Nat) : ∀ k, (bosL t k).length ≤ k * (3 * (2 * t + 1) + 1)
  | 0 => Nat.zero_le _
  | k + 1 => by
    rw [bosL_succ, List.length_append, Nat.succ_mul k]
    have h1 := bosL_len t k
    have h2 := mxX_len (2 * t + 1) (bosF t) k (2 * t + 1)
    unfold bosX
    rw [List.length_cons]
    omega
theorem bosL_small {t : Nat} (ht : t ≤ 4) {k x j i : Nat} (hk : k ≤ 2 * t + 1) (hj : j ≤ 2 * t + 1) (hi : i ≤ 3) (g : Nat → List Int) : (bosL t k ++ bosX t x j ++ (List.range i).map g).length ≤ 1000 := by
  have h1 := bosL_len t k
  have h2 := mxX_len (2 * t + 1) (bosF t) x j
  have h3 : k * (3 * (2 * t + 1) + 1) ≤ 9 * 28 := Nat.mul_le_mul (by omega) (by omega)
  unfold bosX
  simp only [List.length_append, List.length_map, List.length_range, List.length_cons]
  omega
set_option maxHeartbeats 8000000 in
set_option maxRecDepth 100000 in
theorem l11Bose_c (t : Nat) (w : World) (h4 : t ≤ 4) : Calls Tryz.prog 150 #[.int .i64 t] w (MakesII w (bosL t (2 * t + 1))) := by
  have hS0 : St w.heap.size w _ [row 30 (.slice (some ⟨w.heap.size, 0, none⟩) 0 0) []] := (St.refl w).new 30 #[] (by simp)
  have hS1 : St w.heap.size w _ (own2 _ [] (bosL t 0)) := hS0
  clear hS0
  obtain ⟨n, hn⟩ : ∃ n, 2 * t + 1 = n := ⟨_, rfl⟩
  have Q1 := fun k => Lib.hid (bosL_succ t k)
  have Q2 := fun x j (h : x < j) => Lib.hid (show bosX t x (j + 1) = bosX t x j ++ (List.range 3).map (mxT n (bosF t) x j) by rw [bosX_succ, mxY, if_pos h, hn])
  have Q3 := fun x => Lib.hid (show bosX t x (x + 1) = [strT n x] by unfold bosX; rw [mxX_lo _ (Nat.le_refl _), hn])
  have Q4 := fun k x j i hk hj hi g => Lib.hid (bosL_small h4 (k := k) (x := x) (j := j) (i := i) (by omega) (by omega) hi g)
  rw [hn] at Q4 ⊢
  have q0 : 2 * (t : Int) + 1 = (n : Int) := by omega
  have v1 : IntKind.i64.wrap (2 * (t : Int)) = 2 * (t : Int) := IntWalk.i64_in _ (by omega)
  have v2 : IntKind.i64.wrap (2 * (t : Int) + 1) = (n : Int) := by rw [IntWalk.i64_in _ (by omega)]; omega
  have v3 : IntKind.i64.wrap ((t : Int) + 1) = (t : Int) + 1 := IntWalk.i64_in _ (by omega)
  simp only [hn] at Q1
  have n9 : n ≤ 9 := by omega
  have n1 : 1 ≤ n := by omega
  have Hn := Lib.hid hn
  clear hn
  go_enter Tryz.func150, Tryz.ntmps150
  go_wp2_with fail
  go_loopw [4, 5, 6, 7, 8] (fun o xi _ _ _ wr => ∃ (x : Nat) (uo : List Value), x ≤ n ∧ xi = .int .i64 x ∧ Hid (uo.length = (bosL t x).length) ∧ St w.heap.size w wr (own2 o uo (bosL t x))) (fun _ xi _ _ _ _ => n - (intOf xi).toNat)
  case atStart => exact ⟨0, [], by omega, rfl, rfl, hS1⟩
  case round =>
    clear hS1
    obtain ⟨x, uo, hx, rfl, hlo, hS⟩ := hrel
    by_cases hxn : x < n
    · have hxi : (x : Int) < (n : Int) := by omega
      have HE := Q1 x
      have H3 := Q3 x
      have hD : Hid (strT n x = trp x (x + n) (x + 2 * n)) := Lib.hid rfl
      have KT := fun W => Lib.hid (l11Block_c x (x + n) (x + 2 * n) W)
      rw [← hD.out] at KT
      have w1 : IntKind.i64.wrap ((x : Int) + (n : Int)) = (x : Int) + (n : Int) := IntWalk.i64_in _ (by omega)
      have w2 : IntKind.i64.wrap (2 * (n : Int)) = 2 * (n : Int) := IntWalk.i64_in _ (by omega)
      have w3 : IntKind.i64.wrap ((x : Int) + 2 * (n : Int)) = (x : Int) + 2 * (n : Int) := IntWalk.i64_in _ (by omega)
      have w4 : IntKind.i64.wrap ((x : Int) + 1) = (x : Int) + 1 := IntWalk.i64_in _ (by omega)
      have hul := Lib.hid (show uo.length < 4294967296 by
        have := (Q4 x x 0 0 (by omega) (by omega) (by omega) (fun _ => [])).out
        simp only [List.length_append] at this
        rw [hlo.out]; omega)
      clear hD
      generalize strT n x = D at *
      simp only [Int.natCast_add, Int.natCast_mul] at KT
      go_wp2_with fail
      refine (KT _).out.mono ?_
      rintro e w5 ⟨u, rfl, h5⟩
      obtain ⟨ua, uc, hu⟩ := (h5.rdI 0 rfl).sl.sh
      generalize (iv D).length = dl at hu
      subst hu
      have hS4 := hS.call h5
      have hS5 : St w.heap.size w w5 (own2 u4 uo (bosL t x) ++ [] ++ [row 2 (.slice ua dl uc) (iv D)]) := by rw [List.append_nil]; exact hS4
      clear h5 hS hS4 KT
      go_wp2_with (at_builtin; refine appII hS5 0 rfl hul.out rfl _ _ rfl rfl _ rfl (by first | rfl | simp [Act.eval, World.size_alloc]) ?_; intro v8 w8 hS8)
      have hS9 := own2_snocP hlo.out hS8
      rw [List.append_nil, ← H3.out] at hS9
      have hlo2 : Hid ((uo ++ [Value.slice ua dl uc]).length = (bosL t x ++ bosX t x (x + 1)).length) := Lib.hid (by rw [H3.out, List.length_append, List.length_append, hlo.out]; rfl)
      clear hS5 hS8 hlo
      go_wp2_with fail
      go_loopw [4, 6, 7, 8] (fun o yi _ _ wr => ∃ (y : Nat) (uo : List Value), x + 1 ≤ y ∧ y ≤ n ∧ yi = .int .i64 y ∧ Hid (uo.length = (bosL t x ++ bosX t x y).length) ∧ St w.heap.size w wr (own2 o uo (bosL t x ++ bosX t x y))) (fun _ yi _ _ _ => n - (intOf yi).toNat)
      case atStart => exact ⟨x + 1, _, by omega, by omega, by first | rfl | go_num, hlo2, hS9⟩
      case round =>
        clear hS9 hlo2
        obtain ⟨y, uo, hy1, hy2, rfl, hlo, hS⟩ := hrel
        by_cases hyn : y < n
        · have hyi : (y : Int) < (n : Int) := by omega
          have hS2 : St w.heap.size w wr (own2 u4 uo (bosL t x ++ bosX t x y ++ (List.range 0).map (mxT n (bosF t) x y))) := by rw [List.range_zero, List.map_nil, List.append_nil]; exact hS
          have hlo2 : Hid (uo.length = (bosL t x ++ bosX t x y ++ (List.range 0).map (mxT n (bosF t) x y)).length) := by rw [List.range_zero, List.map_nil, List.append_nil]; exact hlo
          have HE2 := Lib.hid (show bosL t x ++ bosX t x (y + 1) = bosL t x ++ bosX t x y ++ (List.range 3).map (mxT n (bosF t) x y) by rw [(Q2 x y (by omega)).out, List.append_assoc])
          have HB := fun i (hi : i ≤ 3) => Lib.hid (Q4 x x y i (by omega) (by omega) hi (mxT n (bosF t) x y)).out
          obtain ⟨z, hz⟩ : ∃ z, bosF t ((x + y) % n) = z := ⟨_, rfl⟩
          have hz2 : (t + 1) * (x + y) % n = z := by rw [← hz, bosF, Hn.out, Nat.mul_mod_mod]
          have hzn : z < n := by rw [← hz2]; exact Nat.mod_lt _ (by omega)
          have hbd : (t + 1) * (x + y) ≤ 5 * 18 := Nat.mul_le_mul (by omega) (by omega)
          obtain ⟨p, hp⟩ : ∃ p, (t + 1) * (x + y) = p := ⟨_, rfl⟩
          rw [hp] at hz2 hbd
          have q1 : ((t : Int) + 1) * ((x : Int) + (y : Int)) = (p : Int) := by rw [← hp]; simp
          have q2 : (p : Int).tmod (n : Int) = (z : Int) := by rw [Int.tmod_eq_emod_of_nonneg (by omega), ← hz2]; rfl
          have w1 : IntKind.i64.wrap ((x : Int) + (y : Int)) = (x : Int) + (y : Int) := IntWalk.i64_in _ (by omega)
          have w2 : IntKind.i64.wrap (p : Int) = (p : Int) := IntWalk.i64_in _ (by omega)
          have w3 : IntKind.i64.wrap (z : Int) = (z : Int) := IntWalk.i64_in _ (by omega)
          have qm : ((n : Int) == 0) = false := eq_f (by omega)
          have qn : ¬ (n : Int) = 0 := by omega
          have qo : ¬ n = 0 := by omega
          have HZ := Lib.hid hz
          clear hS hlo hz hz2 hp hbd
          generalize bosL t x ++ bosX t x y = X at *
          go_wp2_with fail
          clear q1 q2 w2 qm qn qo
          go_loopw [4, 8] (fun o ii wr => ∃ (i : Nat) (uo : List Value), i ≤ 3 ∧ ii = .int .i64 i ∧ Hid (uo.length = (X ++ (List.range i).map (mxT n (bosF t) x y)).length) ∧ St w.heap.size w wr (own2 o uo (X ++ (List.range i).map (mxT n (bosF t) x y)))) (fun _ ii _ => 3 - (intOf ii).toNat)
          case atStart => exact ⟨0, uo, by omega, rfl, hlo2, hS2⟩
          case round =>
            clear hS2 hlo2
            obtain ⟨i, uo, hi, rfl, hlo, hS⟩ := hrel
            by_cases hi3 : i < 3
            · have hii : (i : Int) < 3 := by omega
              have hul := Lib.hid (show uo.length < 4294967296 by rw [hlo.out]; have := (HB i hi).out; omega)
              have Hst := Lib.hid (show X ++ (List.range (i + 1)).map (mxT n (bosF t) x y) = X ++ (List.range i).map (mxT n (bosF t) x y) ++ [mxT n (bosF t) x y i] by rw [rg_succ, List.append_assoc])
              obtain ⟨r, hr⟩ : ∃ r, (i + 1) % 3 = r := ⟨_, rfl⟩
              obtain ⟨p, hp⟩ : ∃ p, n * i = p := ⟨_, rfl⟩
              obtain ⟨s, hs⟩ : ∃ s, n * r = s := ⟨_, rfl⟩
              have hcase : (p = 0 ∧ s = n) ∨ (p = n ∧ s = 2 * n) ∨ (p = 2 * n ∧ s = 0) := by
                rcases (show i = 0 ∨ i = 1 ∨ i = 2 by omega) with e | e | e
                · subst e; subst hr; subst hp; subst hs; simp
                · subst e; subst hr; subst hp; subst hs; right; left; simp; omega
                · subst e; subst hr; subst hp; subst hs; right; right; simp; omega
              have hT := Lib.hid (show mxT n (bosF t) x y i = trp (x + p) (y + p) (z + s) by rw [mxT, HZ.out, hr, hp, hs])
              have KT := fun W => Lib.hid (l11Block_c (x + p) (y + p) (z + s) W)
              rw [← hT.out] at KT
              have q1 : (n : Int) * (i : Int) = (p : Int) := by rw [← hp]; simp
              have q2 : (n : Int) * (r : Int) = (s : Int) := by rw [← hs]; simp
              have q4 : ((i : Int) + 1).tmod 3 = (r : Int) := by
                rw [show (i : Int) + 1 = ((i + 1 : Nat) : Int) by omega, Int.tmod_eq_emod_of_nonneg (by omega), ← hr]; rfl
              have v1 : IntKind.i64.wrap (p : Int) = (p : Int) := IntWalk.i64_in _ (by omega)
              have v2 : IntKind.i64.wrap (s : Int) = (s : Int) := IntWalk.i64_in _ (by omega)
              have v4 : IntKind.i64.wrap (r : Int) = (r : Int) := IntWalk.i64_in _ (by omega)
              have v5 : IntKind.i64.wrap ((x : Int) + (p : Int)) = (x : Int) + (p : Int) := IntWalk.i64_in _ (by omega)
              have v6 : IntKind.i64.wrap ((y : Int) + (p : Int)) = (y : Int) + (p : Int) := IntWalk.i64_in _ (by omega)
              have v7 : IntKind.i64.wrap ((z : Int) + (s : Int)) = (z : Int) + (s : Int) := IntWalk.i64_in _ (by omega)
              have v9 : IntKind.i64.wrap ((i : Int) + 1) = (i : Int) + 1 := IntWalk.i64_in _ (by omega)
              clear hr hp hs hT hcase HE HE2 HZ
              generalize mxT n (bosF t) x y i = D at *
              simp only [Int.natCast_add] at KT
              go_wp2_with fail
              refine (KT _).out.mono ?_
              rintro e w4 ⟨u, rfl, h4⟩
              obtain ⟨ua, uc, hu⟩ := (h4.rdI 0 rfl).sl.sh
              generalize (iv D).length = dl at hu
              subst hu
              have hS4 := hS.call h4
              have hS5 : St w.heap.size w w4 (own2 u4 uo (X ++ (List.range i).map (mxT n (bosF t) x y)) ++ [] ++ [row 2 (.slice ua dl uc) (iv D)]) := by rw [List.append_nil]; exact hS4
              clear h4 hS hS4
              go_wp2_with (at_builtin; refine appII hS5 0 rfl hul.out rfl _ _ rfl rfl _ rfl (by first | rfl | simp [Act.eval, World.size_alloc]) ?_; intro v8 w8 hS8)
              have hS9 := own2_snocP hlo.out hS8
              rw [List.append_nil, ← Hst.out] at hS9
              go_roundw
              case rel => exact ⟨i + 1, _, by omega, by go_num, by rw [Hid, Hst.out, List.length_append, List.length_append, hlo.out]; rfl, hS9⟩
              case measure => simp [intOf]; omega
            · obtain rfl : i = 3 := by omega
              go_wp2_with fail
              go_roundw
              case rel => exact ⟨y + 1, uo, by omega, by omega, by go_num, by rw [HE2.out]; exact hlo, by rw [HE2.out]; exact hS⟩
              case measure => simp [intOf]; omega
        · obtain rfl : y = n := by omega
          go_wp2_with fail
          go_roundw
          case rel => exact ⟨x + 1, uo, by omega, by go_num, by rw [HE.out]; exact hlo, by rw [HE.out]; exact hS⟩
          case measure => simp [intOf]; omega
    · obtain rfl : x = n := by omega
      go_wp2_with fail
      go_ret
      exact ⟨_, uo, rfl, hlo.out, hS⟩
end Go.Proofs.YtegmjlblehjccaaGreat
end
