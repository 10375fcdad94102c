/- Squares of a field, isotopes and products of orthogonal squares, in plain terms. -/
import Derived.Test.YtpfgbbbjldpnnaaPMol
import Derived.Test.YtpfgbbbjldpnnaaPGen
namespace Go.Proofs.Ytpfgbbbjldpnnaa
set_option linter.unusedSimpArgs false
set_option linter.unusedVariables false
section
variable {p : Int} {D : Nat} {fs : List Int}
theorem fsum_self (h : FA p D fs) {a : Int} (ha : El p D a) : fsum p D a a (-1) = 0 := by
  have hp : 0 < p := by have := h.p2; omega
  have e : fsum p D 0 a 1 = a := by rw [fsum_comm, fsum_zero h.p2 ha]
  have := fsum_undo hp (el_zero h) a 1 (-1) (by omega)
  rwa [e] at this
theorem fsum_inj (h : FA p D fs) {a b c : Int} (ha : El p D a) (hb : El p D b) (e : fsum p D a c 1 = fsum p D b c 1) : a = b := by
  have hp : 0 < p := by have := h.p2; omega
  rw [← fsum_undo hp ha c 1 (-1) (by omega), e, fsum_undo hp hb c 1 (-1) (by omega)]
theorem fsum_diff (h : FA p D fs) {a b : Int} (ha : El p D a) (hb : El p D b) (e : fsum p D a b (-1) = 0) : a = b := by
  have hp : 0 < p := by have := h.p2; omega
  have := fsum_undo hp ha b (-1) 1 (by omega)
  rw [e, fsum_comm, fsum_zero h.p2 hb] at this
  exact this.symm
theorem fmul_inj (h : FV p D fs) {m x y : Int} (hm : El p D m) (m0 : m ≠ 0) (hx : El p D x) (hy : El p D y) (e : fmul p D fs m x = fmul p D fs m y) : x = y := by
  have hp : 0 < p := by have := h.p2; omega
  have e2 : fmul p D fs m (fsum p D x y (-1)) = 0 := by rw [fmul_fsum h.fa, e, fsum_self h.fa (fmul_el h.fa _ _)]
  rcases h.nzd hm (fsum_el hp _ _ _) e2 with h1 | h1
  · exact absurd h1 m0
  · exact fsum_diff h.fa hx hy h1
theorem fsum_cut (hp : 0 < p) {a b y a' b' y' : Int} (e1 : fsum p D a y 1 = fsum p D a' y' 1) (e2 : fsum p D b y 1 = fsum p D b' y' 1) : fsum p D a b (-1) = fsum p D a' b' (-1) := by
  have key : ∀ a b y : Int, fsum p D (fsum p D a y 1) (fsum p D b y 1) (-1) = fsum p D a b (-1) := fun a b y => by
    refine (fsum_el hp _ _ _).ext hp (fsum_el hp _ _ _) fun i hi => ?_
    rw [dc_fsum hp hi, dc_fsum hp hi, dc_fsum hp hi, dc_fsum hp hi]
    rw [Int.emod_add_emod, show ∀ u : Int, u + -1 * ((dc p D b i + 1 * dc p D y i) % p) = u - (dc p D b i + 1 * dc p D y i) % p from fun u => by omega]
    rw [Int.sub_emod, Int.emod_emod, ← Int.sub_emod]
    congr 1; omega
  rw [← key a b y, ← key a' b' y', e1, e2]
/-- the square of the factor m -/
def fsq (p : Int) (D : Nat) (fs : List Int) (q : Nat) (m : Int) : List (List Int) := sqF q fun x y => fsum p D (fmul p D fs m x) y 1
theorem el_nat {q : Nat} (_ : FV p D fs) (hq : p ^ D = (q : Int)) {x : Nat} (hx : x < q) : El p D (x : Int) := ⟨by omega, by rw [hq]; omega⟩
theorem fsq_at {q : Nat} (_ : FV p D fs) (_ : p ^ D = (q : Int)) {m : Int} {x y : Nat} (hx : x < q) (hy : y < q) : at2 (fsq p D fs q m) x y = fsum p D (fmul p D fs m x) y 1 := by unfold fsq; rw [at2_sqF hx hy]
variable {q : Nat} (h : FV p D fs) (hq : p ^ D = (q : Int))
include h hq
theorem fsq_sq0 (m : Int) : Sq0 q (fsq p D fs q m) := ⟨sqF_sqr _ _, fun x y hx hy => by
  have hp : 0 < p := by have := h.p2; omega
  have := fsum_el (D := D) hp (fmul p D fs m x) y 1
  unfold fsq; rw [at2_sqF hx hy]
  rw [El, hq] at this; exact this⟩
theorem fsq_lat {m : Int} (hm : El p D m) (m0 : m ≠ 0) (q1 : 1 ≤ q) (q10 : q ≤ 10) : Lat (fsq p D fs q m) := by
  have h0 := fsq_sq0 h hq m
  have hl : (fsq p D fs q m).length = q := h0.len
  refine ⟨by rw [hl]; exact q1, by rw [hl]; exact q10, fun x hx => by rw [hl] at hx ⊢; exact h0.row x hx, fun x hx => ?_, fun y hy => ?_⟩
  · rw [hl] at hx
    refine ⟨fun y hy => ?_, fun y z hy hz e => ?_⟩
    · rw [h0.row x hx] at hy ⊢; exact h0.el x y hx hy
    · rw [h0.row x hx] at hy hz
      have e' : at2 (fsq p D fs q m) x y = at2 (fsq p D fs q m) x z := e
      rw [fsq_at h hq hx hy, fsq_at h hq hx hz, fsum_comm, fsum_comm _ (z : Int)] at e'
      have := fsum_inj h.fa (el_nat h hq hy) (el_nat h hq hz) e'
      omega
  · rw [hl] at hy
    refine ⟨fun x hx => ?_, fun x z hx hz e => ?_⟩
    · rw [colL_len, hl] at hx ⊢; rw [nth_colL (by rw [hl]; exact hx)]; exact h0.el x y hx hy
    · rw [colL_len, hl] at hx hz
      rw [nth_colL (by rw [hl]; exact hx), nth_colL (by rw [hl]; exact hz), fsq_at h hq hx hy, fsq_at h hq hz hy] at e
      have e1 := fsum_inj h.fa (fmul_el h.fa _ _) (fmul_el h.fa _ _) e
      have := fmul_inj h hm m0 (el_nat h hq hx) (el_nat h hq hz) e1
      omega
theorem fsq_ort {m m' : Int} (hm : El p D m) (hm' : El p D m') (hne : m ≠ m') : Ort q (fsq p D fs q m) (fsq p D fs q m') := fun x y x' y' hx hy hx' hy' e1 e2 => by
  have hp : 0 < p := by have := h.p2; omega
  rw [fsq_at h hq hx hy, fsq_at h hq hx' hy'] at e1 e2
  have e3 := fsum_cut hp e1 e2
  rw [fmul_comm h.fa m, fmul_comm h.fa m', fmul_comm h.fa m, fmul_comm h.fa m', ← fmul_fsum h.fa, ← fmul_fsum h.fa, fmul_comm h.fa (x : Int), fmul_comm h.fa (x' : Int)] at e3
  have hd0 : fsum p D m m' (-1) ≠ 0 := fun e => hne (fsum_diff h.fa hm hm' e)
  have e4 := fmul_inj h (fsum_el hp _ _ _) hd0 (el_nat h hq hx) (el_nat h hq hx') e3
  have e5 : x = x' := by omega
  subst e5
  rw [fsum_comm, fsum_comm _ (y' : Int)] at e1
  have := fsum_inj h.fa (el_nat h hq hy) (el_nat h hq hy') e1
  exact ⟨rfl, by omega⟩
end
/-- all squares of the field -/
def fmL (p : Int) (D : Nat) (fs : List Int) (q : Nat) (k : Nat) : List (List (List Int)) := (List.range k).map fun i : Nat => fsq p D fs q ((i : Int) + 1)
theorem fmL_len (p : Int) (D : Nat) (fs : List Int) (q k : Nat) : (fmL p D fs q k).length = k := by simp [fmL]
theorem fmL_at {p : Int} {D : Nat} {fs : List Int} {q k i : Nat} (hi : i < k) : x3at (fmL p D fs q k) i = fsq p D fs q ((i : Int) + 1) := by simp [fmL, x3at, hi]
theorem fmL_succ (p : Int) (D : Nat) (fs : List Int) (q k : Nat) : fmL p D fs q (k + 1) = fmL p D fs q k ++ [fsq p D fs q ((k : Int) + 1)] := by simp [fmL, List.range_succ]
theorem fmL_mols {p : Int} {D : Nat} {fs : List Int} {q : Nat} (h : FV p D fs) (hq : p ^ D = (q : Int)) (q2 : 2 ≤ q) (q10 : q ≤ 10) : Mols (fmL p D fs q (q - 1)) := by
  have hel : ∀ i, i < q - 1 → El p D ((i : Int) + 1) := fun i hi => ⟨by omega, by rw [hq]; omega⟩
  refine ⟨by rw [fmL_len]; omega, by rw [fmL_len]; omega, fun k hk => ?_, fun k i hi hk => ?_⟩
  · rw [fmL_len] at hk
    rw [fmL_at hk]; exact fsq_lat h hq (hel k hk) (by omega) (by omega) q10
  · rw [fmL_len] at hk
    rw [fmL_at hk, fmL_at (by omega)]
    have l1 : (fsq p D fs q ((k : Int) + 1)).length = q := (fsq_sq0 h hq _).len
    have l2 : (fsq p D fs q ((i : Int) + 1)).length = q := (fsq_sq0 h hq _).len
    exact orB_yes (by rw [l1, l2]) (by rw [l1]; exact fsq_ort h hq (hel k hk) (hel i (by omega)) (by omega))
/-! ### isotopes -/
theorem Ort.iso {A B : List (List Int)} {r c s s' : List Int} (hA : Sq0 A.length A) (hB : Sq0 A.length B) (hl : B.length = A.length) (hr : IsP r) (hc : IsP c) (hs : IsP s) (hs' : IsP s') (lr : r.length = A.length) (lc : c.length = A.length) (ls : s.length = A.length) (ls' : s'.length = A.length)
    (h : Ort A.length A B) : Ort A.length (isoL A r c s) (isoL B r c s') := fun x y x' y' hx hy hx' hy' e1 e2 => by
  obtain ⟨u, hu, rfl⟩ := hr.bij.onto (y := x) (by omega)
  obtain ⟨u', hu', rfl⟩ := hr.bij.onto (y := x') (by omega)
  obtain ⟨t, ht, rfl⟩ := hc.bij.onto (y := y) (by omega)
  obtain ⟨t', ht', rfl⟩ := hc.bij.onto (y := y') (by omega)
  rw [isoL_at hr hc lr lc (by omega) (by omega), isoL_at hr hc lr lc (by omega) (by omega)] at e1
  rw [isoL_at hr hc (by omega) (by omega) (by omega) (by omega), isoL_at hr hc (by omega) (by omega) (by omega) (by omega)] at e2
  have a1 := hA.el u t (by omega) (by omega)
  have a2 := hA.el u' t' (by omega) (by omega)
  have b1 := hB.el u t (by omega) (by omega)
  have b2 := hB.el u' t' (by omega) (by omega)
  have f1 := hs.inj _ _ (by omega) (by omega) e1
  have f2 := hs'.inj _ _ (by omega) (by omega) e2
  have := h u t u' t' (by omega) (by omega) (by omega) (by omega) (by omega) (by omega)
  rw [this.1, this.2]; exact ⟨rfl, rfl⟩
/-- a square is not orthogonal to itself, nor are isotopes of it by the same places -/
theorem not_ort {A : List (List Int)} {r c s s' : List Int} (hA : Lat A) (n2 : 2 ≤ A.length) (hr : IsP r) (hc : IsP c) (lr : r.length = A.length) (lc : c.length = A.length) : ¬ Ort A.length (isoL A r c s) (isoL A r c s') := fun h => by
  have h0 := hA.sq0
  have a0 := h0.el 0 0 (by omega) (by omega)
  have hb := (hA.row 1 (by omega)).bij
  rw [hA.len 1 (by omega)] at hb
  obtain ⟨y, hy, ey⟩ := hb.onto (y := (at2 A 0 0).toNat) (by omega)
  have e : at2 A 0 0 = at2 A 1 y := by
    have a1 := h0.el 1 y (by omega) hy
    have : (at2 A 1 y).toNat = (at2 A 0 0).toNat := ey
    omega
  have h1 := hr.pf_lt (j := 0) (by omega)
  have h2 := hr.pf_lt (j := 1) (by omega)
  have h3 := hc.pf_lt (j := 0) (by omega)
  have h4 := hc.pf_lt (j := y) (by omega)
  have := h (pf r 0) (pf c 0) (pf r 1) (pf c y) (by omega) (by omega) (by omega) (by omega)
    (by rw [isoL_at hr hc lr lc (by omega) (by omega), isoL_at hr hc lr lc (by omega) (by omega), e]) (by rw [isoL_at hr hc lr lc (by omega) (by omega), isoL_at hr hc lr lc (by omega) (by omega), e])
  have := hr.bij.inj 0 1 (by omega) (by omega) this.1
  omega
/-! ### products -/
def pdF (m : Nat) (A B : List (List Int)) (x y : Nat) : Nat := m * af A (x / m) (y / m) + af B (x % m) (y % m)
def pdL (n m : Nat) (A B : List (List Int)) : List (List Int) := sqF (n * m) fun x y => ((pdF m A B x y : Nat) : Int)
section
variable {n m : Nat}
theorem dm_lt {x : Nat} (hx : x < n * m) : x / m < n ∧ x % m < m := by
  have m0 : 0 < m := by rcases Nat.eq_zero_or_pos m with e | e; · subst e; omega
                        · exact e
  exact ⟨Nat.div_lt_of_lt_mul (by rw [Nat.mul_comm]; exact hx), Nat.mod_lt _ m0⟩
theorem dm_inj {x y : Nat} (h1 : x / m = y / m) (h2 : x % m = y % m) : x = y := by rw [← Nat.div_add_mod x m, ← Nat.div_add_mod y m, h1, h2]
theorem pd_lt {a b : Nat} (ha : a < n) (hb : b < m) : m * a + b < n * m := by
  have h1 : m * a + m ≤ m * n := by rw [← Nat.mul_succ]; exact Nat.mul_le_mul_left _ (by omega)
  rw [Nat.mul_comm n m]; omega
theorem pd_inj {a b a' b' : Nat} (hb : b < m) (hb' : b' < m) (e : m * a + b = m * a' + b') : a = a' ∧ b = b' := by
  have h1 : (m * a + b) / m = a := by rw [Nat.mul_add_div (by omega), Nat.div_eq_of_lt hb]; omega
  have h2 : (m * a' + b') / m = a' := by rw [Nat.mul_add_div (by omega), Nat.div_eq_of_lt hb']; omega
  have h3 : a = a' := by rw [← h1, ← h2, e]
  subst h3
  exact ⟨rfl, by omega⟩
variable {A B A' B' : List (List Int)}
theorem pdF_lt (hA : Sq0 n A) (hB : Sq0 m B) {x y : Nat} (hx : x < n * m) (hy : y < n * m) : pdF m A B x y < n * m :=
  pd_lt (af_eq hA (dm_lt hx).1 (dm_lt hy).1).2 (af_eq hB (dm_lt hx).2 (dm_lt hy).2).2
theorem pdL_sq0 (hA : Sq0 n A) (hB : Sq0 m B) : Sq0 (n * m) (pdL n m A B) := ⟨sqF_sqr _ _, fun x y hx hy => by
  have := pdF_lt hA hB hx hy
  unfold pdL; rw [at2_sqF hx hy]; omega⟩
theorem pdL_at {x y : Nat} (hx : x < n * m) (hy : y < n * m) : at2 (pdL n m A B) x y = (pdF m A B x y : Nat) := by unfold pdL; rw [at2_sqF hx hy]
theorem pdL_eq (hB : Sq0 m B) {x y x' y' : Nat} (hx : x < n * m) (hy : y < n * m) (hx' : x' < n * m) (hy' : y' < n * m) (e : at2 (pdL n m A B) x y = at2 (pdL n m A B) x' y') :
    af A (x / m) (y / m) = af A (x' / m) (y' / m) ∧ af B (x % m) (y % m) = af B (x' % m) (y' % m) := by
  rw [pdL_at hx hy, pdL_at hx' hy'] at e
  exact pd_inj (af_eq hB (dm_lt hx).2 (dm_lt hy).2).2 (af_eq hB (dm_lt hx').2 (dm_lt hy').2).2 (by unfold pdF at e; omega)
theorem af_at (hA : Sq0 n A) {x y x' y' : Nat} (hx : x < n) (hy : y < n) (hx' : x' < n) (hy' : y' < n) (e : af A x y = af A x' y') : at2 A x y = at2 A x' y' := by
  rw [(af_eq hA hx hy).1, (af_eq hA hx' hy').1, e]
theorem pdL_lat (hA : Lat A) (hB : Lat B) (hn : n = A.length) (hm : m = B.length) (h10 : n * m ≤ 10) : Lat (pdL n m A B) := by
  have qA : Sq0 n A := by rw [hn]; exact hA.sq0
  have qB : Sq0 m B := by rw [hm]; exact hB.sq0
  have h0 := pdL_sq0 qA qB
  have hl : (pdL n m A B).length = n * m := h0.len
  have lA := hA.latin
  have lB := hB.latin
  rw [← hn] at lA
  rw [← hm] at lB
  refine ⟨?_, by rw [hl]; exact h10, fun x hx => by rw [hl] at hx ⊢; exact h0.row x hx, fun x hx => ?_, fun y hy => ?_⟩
  · rw [hl]; have := hA.pos; have := hB.pos; exact Nat.mul_pos (by omega) (by omega)
  · rw [hl] at hx
    refine ⟨fun y hy => ?_, fun y z hy hz e => ?_⟩
    · rw [h0.row x hx] at hy ⊢; exact h0.el x y hx hy
    · rw [h0.row x hx] at hy hz
      have e' : at2 (pdL n m A B) x y = at2 (pdL n m A B) x z := e
      have e2 := pdL_eq qB hx hy hx hz e'
      exact dm_inj ((lA.row _ (dm_lt hx).1).inj _ _ (dm_lt hy).1 (dm_lt hz).1 e2.1) ((lB.row _ (dm_lt hx).2).inj _ _ (dm_lt hy).2 (dm_lt hz).2 e2.2)
  · rw [hl] at hy
    refine ⟨fun x hx => ?_, fun x z hx hz e => ?_⟩
    · rw [colL_len, hl] at hx ⊢; rw [nth_colL (by rw [hl]; exact hx)]; exact h0.el x y hx hy
    · rw [colL_len, hl] at hx hz
      rw [nth_colL (by rw [hl]; exact hx), nth_colL (by rw [hl]; exact hz)] at e
      have e2 := pdL_eq qB hx hy hz hy e
      exact dm_inj ((lA.col _ (dm_lt hy).1).inj _ _ (dm_lt hx).1 (dm_lt hz).1 e2.1) ((lB.col _ (dm_lt hy).2).inj _ _ (dm_lt hx).2 (dm_lt hz).2 e2.2)
theorem pdL_ort (hA : Sq0 n A) (hA' : Sq0 n A') (hB : Sq0 m B) (hB' : Sq0 m B') (h1 : Ort n A A') (h2 : Ort m B B') : Ort (n * m) (pdL n m A B) (pdL n m A' B') := fun x y x' y' hx hy hx' hy' e1 e2 => by
  have f1 := pdL_eq hB hx hy hx' hy' e1
  have f2 := pdL_eq hB' hx hy hx' hy' e2
  have a := dm_lt hx
  have b := dm_lt hy
  have c := dm_lt hx'
  have d := dm_lt hy'
  have g1 := h1 _ _ _ _ a.1 b.1 c.1 d.1 (af_at hA a.1 b.1 c.1 d.1 f1.1) (af_at hA' a.1 b.1 c.1 d.1 f2.1)
  have g2 := h2 _ _ _ _ a.2 b.2 c.2 d.2 (af_at hB a.2 b.2 c.2 d.2 f1.2) (af_at hB' a.2 b.2 c.2 d.2 f2.2)
  exact ⟨dm_inj g1.1 g2.1, dm_inj g1.2 g2.2⟩
end
/-- the products of the first k squares -/
def pmL (n m : Nat) (X Y : List (List (List Int))) (k : Nat) : List (List (List Int)) := (List.range k).map fun i => pdL n m (x3at X i) (x3at Y i)
theorem pmL_len (n m : Nat) (X Y : List (List (List Int))) (k : Nat) : (pmL n m X Y k).length = k := by simp [pmL]
theorem pmL_at {n m : Nat} {X Y : List (List (List Int))} {k i : Nat} (hi : i < k) : x3at (pmL n m X Y k) i = pdL n m (x3at X i) (x3at Y i) := by simp [pmL, x3at, hi]
theorem pmL_succ (n m : Nat) (X Y : List (List (List Int))) (k : Nat) : pmL n m X Y (k + 1) = pmL n m X Y k ++ [pdL n m (x3at X k) (x3at Y k)] := by simp [pmL, List.range_succ]
theorem pmL_mols {n m : Nat} {X Y : List (List (List Int))} (hX : Mols X) (hY : Mols Y) (hn : n = (x3at X 0).length) (hm : m = (x3at Y 0).length) (h10 : n * m ≤ 10) {k : Nat} (hk1 : 1 ≤ k) (hkX : k ≤ X.length) (hkY : k ≤ Y.length) : Mols (pmL n m X Y k) := by
  have lx : ∀ i, i < k → (x3at X i).length = n := fun i hi => by rw [hn]; exact hX.len (by omega)
  have ly : ∀ i, i < k → (x3at Y i).length = m := fun i hi => by rw [hm]; exact hY.len (by omega)
  have sx : ∀ i, i < k → Sq0 n (x3at X i) := fun i hi => by rw [← lx i hi]; exact (hX.lat i (by omega)).sq0
  have sy : ∀ i, i < k → Sq0 m (x3at Y i) := fun i hi => by rw [← ly i hi]; exact (hY.lat i (by omega)).sq0
  refine ⟨by rw [pmL_len]; exact hk1, by rw [pmL_len]; have := hX.le; omega, fun i hi => ?_, fun i j hj hi => ?_⟩
  · rw [pmL_len] at hi
    rw [pmL_at hi]; exact pdL_lat (hX.lat i (by omega)) (hY.lat i (by omega)) (lx i hi).symm (ly i hi).symm h10
  · rw [pmL_len] at hi
    rw [pmL_at hi, pmL_at (by omega)]
    have l1 : (pdL n m (x3at X i) (x3at Y i)).length = n * m := (pdL_sq0 (sx i hi) (sy i hi)).len
    have l2 : (pdL n m (x3at X j) (x3at Y j)).length = n * m := (pdL_sq0 (sx j (by omega)) (sy j (by omega))).len
    have o1 := (orB_t (hX.ort i j hj (by omega))).2
    have o2 := (orB_t (hY.ort i j hj (by omega))).2
    rw [lx i hi] at o1
    rw [ly i hi] at o2
    exact orB_yes (by rw [l1, l2]) (by rw [l1]; exact pdL_ort (sx i hi) (sx j (by omega)) (sy i hi) (sy j (by omega)) o1 o2)
end Go.Proofs.Ytpfgbbbjldpnnaa
