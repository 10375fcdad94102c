/- The texts of this claim, run 6: PSw PCon PQg Qg1 Arr2 Same Qg2 Str1 Qg3 Po Qg4. -/
import Derived.Test.YtdlmohigkkdegaaK2
import Derived.Test.YtdlmohigkkdegaaK3
import Derived.Test.YtdlmohigkkdegaaK4
import Derived.Test.YtdlmohigkkdegaaK5

section
/- Latin squares: where two rows are exchanged along a closed cycle of columns, the square stays Latin; cyclic squares and products of squares are Latin. In plain terms. -/
namespace Go.Proofs.Ytdlmohigkkdegaa
set_option linter.unusedSimpArgs false
set_option linter.unusedVariables false
/-- a square is Latin if no row and no column holds a symbol twice -/
theorem Lat.of {n : Nat} {S : List (List Int)} (h : Sq0 n S) (n1 : 1 ≤ n) (n2 : n ≤ 10) (hr : ∀ x i j, x < n → i < n → j < n → at2 S x i = at2 S x j → i = j) (hc : ∀ y i j, y < n → i < n → j < n → at2 S i y = at2 S j y → i = j) : Lat S where
  pos := by rw [h.len]; exact n1
  le := by rw [h.len]; exact n2
  len x hx := by rw [h.len] at hx ⊢; exact h.row x hx
  row x hx := by
    rw [h.len] at hx
    have hl := h.row x hx
    exact ⟨fun j hj => by rw [hl] at hj ⊢; exact h.el x j hx hj, fun i j hi hj e => by rw [hl] at hi hj; exact hr x i j hx hi hj e⟩
  col y hy := by
    rw [h.len] at hy
    exact ⟨fun j hj => by rw [colL_len] at hj ⊢; rw [nth_colL hj]; rw [h.len] at hj ⊢; exact h.el j y hj hy, fun i j hi hj e => by
      rw [colL_len] at hi hj; rw [nth_colL hi, nth_colL hj] at e; rw [h.len] at hi hj; exact hc y i j hy hi hj e⟩
theorem Lat.rinj {A : List (List Int)} (h : Lat A) {x i j : Nat} (hx : x < A.length) (hi : i < A.length) (hj : j < A.length) (e : at2 A x i = at2 A x j) : i = j :=
  (h.row x hx).inj i j (by rw [h.len x hx]; exact hi) (by rw [h.len x hx]; exact hj) e
theorem Lat.cinj {A : List (List Int)} (h : Lat A) {y i j : Nat} (hy : y < A.length) (hi : i < A.length) (hj : j < A.length) (e : at2 A i y = at2 A j y) : i = j :=
  (h.col y hy).inj i j (by rw [colL_len]; exact hi) (by rw [colL_len]; exact hj) (by rw [nth_colL hi, nth_colL hj]; exact e)
theorem Lat.ronto {A : List (List Int)} (h : Lat A) {x : Nat} (hx : x < A.length) {s : Int} (h0 : 0 ≤ s) (h1 : s < A.length) : ∃ y, y < A.length ∧ at2 A x y = s := by
  have hp := h.row x hx
  have hl := h.len x hx
  obtain ⟨y, hy, e⟩ := hp.bij.onto (y := s.toNat) (by omega)
  refine ⟨y, by omega, ?_⟩
  have := nth_pf hp hy
  unfold at2; omega
/-! ### exchanging two rows along columns -/
/-- the rows x and z of A are exchanged at the columns T; y comes next -/
structure SwI (n : Nat) (A S : List (List Int)) (x z y : Nat) (f : Int) (T : List Nat) : Prop where
  sq : Sqr n S
  el : ∀ a b, a < n → b < n → at2 S a b = if b ∈ T then at2 A (if a = x then z else if a = z then x else a) b else at2 A a b
  nd : T.Nodup
  lt : ∀ t ∈ T, t < n
  yn : y ∉ T
  ylt : y < n
  c1 : ∀ t ∈ y :: T, at2 A x t = f ∨ ∃ u ∈ T, at2 A x t = at2 A z u
  c2 : ∀ u ∈ T, ∃ t ∈ y :: T, at2 A z u = at2 A x t
  c3 : ∃ t ∈ y :: T, at2 A x t = f
section
variable {n : Nat} {A S : List (List Int)} {x z y : Nat} {f : Int} {T : List Nat}
theorem SwI.start (hA : Sqr n A) (hy : y < n) : SwI n A A x z y (at2 A x y) [] where
  sq := hA
  el a b _ _ := by simp
  nd := List.nodup_nil
  lt t ht := by cases ht
  yn := by simp
  ylt := hy
  c1 t ht := by simp at ht; subst ht; exact .inl rfl
  c2 u hu := by cases hu
  c3 := ⟨y, by simp, rfl⟩
theorem length_le_of_nodup_lt {T : List Nat} {n : Nat} (h : T.Nodup) (hl : ∀ t ∈ T, t < n) : T.length ≤ n := by
  have := h.length_le_of_subset (l₂ := List.range n) (fun t ht => List.mem_range.2 (hl t ht))
  simpa using this
theorem SwI.len (h : SwI n A S x z y f T) : T.length < n := by
  have := length_le_of_nodup_lt (T := y :: T) (n := n) (List.nodup_cons.2 ⟨h.yn, h.nd⟩) (fun t ht => by
    rcases List.mem_cons.1 ht with rfl | ht
    · exact h.ylt
    · exact h.lt t ht)
  have h2 : T.length + 1 ≤ n := by simpa using this
  omega
theorem SwI.atx (h : SwI n A S x z y f T) (hx : x < n) : at2 S x y = at2 A x y := by rw [h.el x y hx h.ylt, if_neg h.yn]
theorem SwI.atz (h : SwI n A S x z y f T) (hz : z < n) : at2 S z y = at2 A z y := by rw [h.el z y hz h.ylt, if_neg h.yn]
/-- the entries behind the exchange at y -/
theorem SwI.put (h : SwI n A S x z y f T) (hx : x < n) (hz : z < n) (hxz : x ≠ z) :
    Sqr n (putS (putS S x y (at2 S z y)) z y (at2 S x y)) ∧ ∀ a b, a < n → b < n → at2 (putS (putS S x y (at2 S z y)) z y (at2 S x y)) a b = if b ∈ y :: T then at2 A (if a = x then z else if a = z then x else a) b else at2 A a b := by
  have q1 := putS_sqr h.sq hx y (at2 S z y)
  refine ⟨putS_sqr q1 hz y _, fun a b ha hb => ?_⟩
  rw [at2_putS q1 hz h.ylt, at2_putS h.sq hx h.ylt, h.atx hx, h.atz hz]
  by_cases e1 : z = a ∧ y = b
  · obtain ⟨rfl, rfl⟩ := e1
    rw [if_pos ⟨rfl, rfl⟩, if_pos (show y ∈ y :: T by simp), if_neg (fun e => hxz e.symm), if_pos rfl]
  · rw [if_neg e1]
    by_cases e2 : x = a ∧ y = b
    · obtain ⟨rfl, rfl⟩ := e2
      rw [if_pos ⟨rfl, rfl⟩, if_pos (show y ∈ y :: T by simp), if_pos rfl]
    · rw [if_neg e2, h.el a b ha hb]
      by_cases e3 : y = b
      · subst e3
        rw [if_neg h.yn, if_pos (show y ∈ y :: T by simp), if_neg (fun e => e2 ⟨e.symm, rfl⟩), if_neg (fun e => e1 ⟨e.symm, rfl⟩)]
      · by_cases e4 : b ∈ T
        · rw [if_pos e4, if_pos (show b ∈ y :: T from List.mem_cons_of_mem _ e4)]
        · rw [if_neg e4, if_neg (show b ∉ y :: T from fun hm => by rcases List.mem_cons.1 hm with e | e; exact e3 e.symm; exact e4 e)]
/-- the cycle is closed: the square is Latin -/
theorem SwI.close (h : SwI n A S x z y f T) (hA : Lat A) (hn : A.length = n) (hx : x < n) (hz : z < n) (hxz : x ≠ z) (hf : at2 A z y = f) : Lat (putS (putS S x y (at2 S z y)) z y (at2 S x y)) := by
  obtain ⟨q, el⟩ := h.put hx hz hxz
  generalize putS (putS S x y (at2 S z y)) z y (at2 S x y) = S3 at q el
  subst hn
  have k1 : ∀ t ∈ y :: T, ∃ u ∈ y :: T, at2 A x t = at2 A z u := fun t ht => by
    rcases h.c1 t ht with e | ⟨u, hu, e⟩
    · exact ⟨y, by simp, by rw [e, hf]⟩
    · exact ⟨u, by simp [hu], e⟩
  have k2 : ∀ u ∈ y :: T, ∃ t ∈ y :: T, at2 A z u = at2 A x t := fun u hu => by
    rcases List.mem_cons.1 hu with rfl | hu
    · obtain ⟨t, ht, e⟩ := h.c3
      exact ⟨t, ht, by rw [e, hf]⟩
    · exact h.c2 u hu
  have hs : ∀ a, a < A.length → (if a = x then z else if a = z then x else a) < A.length := fun a ha => by
    split
    · exact hz
    · split
      · exact hx
      · exact ha
  have h0 := hA.sq0
  have q0 : Sq0 A.length S3 := ⟨q, fun a b ha hb => by
    rw [el a b ha hb]
    split
    · exact h0.el _ b (hs a ha) hb
    · exact h0.el a b ha hb⟩
  have hlt : ∀ t ∈ y :: T, t < A.length := fun t ht => by
    rcases List.mem_cons.1 ht with rfl | ht
    · exact h.ylt
    · exact h.lt t ht
  -- a row holds no symbol twice: the one place is exchanged, the other is not
  have mix : ∀ a i j, a < A.length → i < A.length → j < A.length → i ∈ y :: T → j ∉ y :: T → at2 A (if a = x then z else if a = z then x else a) i = at2 A a j → i = j := fun a i j ha hi hj hiT hjT e => by
    by_cases e1 : a = x
    · subst e1
      rw [if_pos rfl] at e
      obtain ⟨t, ht, e2⟩ := k2 i hiT
      have := hA.rinj ha (hlt t ht) hj (e2.symm.trans e)
      subst this; exact absurd ht hjT
    · rw [if_neg e1] at e
      by_cases e2 : a = z
      · subst e2
        rw [if_pos rfl] at e
        obtain ⟨u, hu, e3⟩ := k1 i hiT
        have := hA.rinj ha (hlt u hu) hj (e3.symm.trans e)
        subst this; exact absurd hu hjT
      · rw [if_neg e2] at e
        exact hA.rinj ha hi hj e
  refine Lat.of q0 hA.pos hA.le (fun a i j ha hi hj e => ?_) (fun b i j hb hi hj e => ?_)
  · rw [el a i ha hi, el a j ha hj] at e
    by_cases m1 : i ∈ y :: T
    · rw [if_pos m1] at e
      by_cases m2 : j ∈ y :: T
      · rw [if_pos m2] at e; exact hA.rinj (hs a ha) hi hj e
      · rw [if_neg m2] at e; exact mix a i j ha hi hj m1 m2 e
    · rw [if_neg m1] at e
      by_cases m2 : j ∈ y :: T
      · rw [if_pos m2] at e; exact (mix a j i ha hj hi m2 m1 e.symm).symm
      · rw [if_neg m2] at e; exact hA.rinj ha hi hj e
  · rw [el i b hi hb, el j b hj hb] at e
    by_cases m1 : b ∈ y :: T
    · rw [if_pos m1, if_pos m1] at e
      have := hA.cinj hb (hs i hi) (hs j hj) e
      split at this <;> split at this <;> (try split at this) <;> (try split at this) <;> omega
    · rw [if_neg m1, if_neg m1] at e; exact hA.cinj hb hi hj e
/-- the cycle goes on: the next column is the only one -/
theorem SwI.next (h : SwI n A S x z y f T) (hA : Lat A) (hn : A.length = n) (hx : x < n) (hz : z < n) (hxz : x ≠ z) (hf : at2 A z y ≠ f) :
    ∃ y', y' < n ∧ y' ≠ y ∧ at2 (putS (putS S x y (at2 S z y)) z y (at2 S x y)) x y' = at2 A z y ∧ (∀ i, i < n → i ≠ y → at2 (putS (putS S x y (at2 S z y)) z y (at2 S x y)) x i = at2 A z y → i = y') ∧
      SwI n A (putS (putS S x y (at2 S z y)) z y (at2 S x y)) x z y' f (y :: T) := by
  obtain ⟨q, el⟩ := h.put hx hz hxz
  generalize putS (putS S x y (at2 S z y)) z y (at2 S x y) = S3 at q el ⊢
  subst hn
  have h0 := hA.sq0
  obtain ⟨y', hy', e⟩ := hA.ronto hx (h0.el z y hz h.ylt).1 (h0.el z y hz h.ylt).2
  have hny : y' ≠ y := fun e2 => by subst e2; exact hxz (hA.cinj hy' hx hz e)
  have hnT : y' ∉ y :: T := fun hm => by
    rcases h.c1 y' hm with e2 | ⟨u, hu, e2⟩
    · exact hf (e.symm.trans e2)
    · have := hA.rinj hz (h.lt u hu) h.ylt (e2.symm.trans e)
      subst this; exact h.yn hu
  refine ⟨y', hy', hny, by rw [el x y' hx hy', if_neg hnT, e], fun i hi hiy e2 => ?_, ?_⟩
  · rw [el x i hx hi] at e2
    by_cases m : i ∈ y :: T
    · rw [if_pos m, if_pos rfl] at e2
      exact absurd (hA.rinj hz hi h.ylt e2) hiy
    · rw [if_neg m] at e2
      exact hA.rinj hx hi hy' (e2.trans e.symm)
  · refine ⟨q, el, List.nodup_cons.2 ⟨h.yn, h.nd⟩, fun t ht => ?_, hnT, hy', fun t ht => ?_, fun u hu => ?_, ?_⟩
    · rcases List.mem_cons.1 ht with rfl | ht
      · exact h.ylt
      · exact h.lt t ht
    · rcases List.mem_cons.1 ht with rfl | ht
      · exact .inr ⟨y, by simp, e⟩
      · rcases h.c1 t ht with e2 | ⟨u, hu, e2⟩
        · exact .inl e2
        · exact .inr ⟨u, by simp [hu], e2⟩
    · rcases List.mem_cons.1 hu with rfl | hu
      · exact ⟨y', by simp, e.symm⟩
      · obtain ⟨t, ht, e2⟩ := h.c2 u hu
        exact ⟨t, by simp only [List.mem_cons] at ht ⊢; exact .inr ht, e2⟩
    · obtain ⟨t, ht, e2⟩ := h.c3
      exact ⟨t, by simp only [List.mem_cons] at ht ⊢; exact .inr ht, e2⟩
end
/-! ### cyclic squares, products -/
theorem mod_inj {n x i j : Nat} (hi : i < n) (hj : j < n) (e : (x + i) % n = (x + j) % n) : i = j := by
  have h1 := Nat.div_add_mod (x + i) n
  have h2 := Nat.div_add_mod (x + j) n
  rw [e] at h1
  have h3 : n * ((x + i) / n) + j = n * ((x + j) / n) + i := by omega
  generalize (x + i) / n = a at *
  generalize (x + j) / n = b at *
  rcases Nat.lt_trichotomy a b with h | h | h
  · have : n * (a + 1) ≤ n * b := Nat.mul_le_mul_left n h
    rw [Nat.mul_add] at this; omega
  · subst h; omega
  · have : n * (b + 1) ≤ n * a := Nat.mul_le_mul_left n h
    rw [Nat.mul_add] at this; omega
/-- the cyclic square -/
def cycS (n : Nat) : List (List Int) := sqF n fun x y => (((x + y) % n : Nat) : Int)
theorem cycS_lat {n : Nat} (n1 : 1 ≤ n) (n2 : n ≤ 10) : Lat (cycS n) :=
  Lat.of ⟨sqF_sqr n _, fun x y hx hy => by unfold cycS; rw [at2_sqF hx hy]; have := Nat.mod_lt (x + y) (show 0 < n by omega); omega⟩ n1 n2
    (fun x i j hx hi hj e => by unfold cycS at e; rw [at2_sqF hx hi, at2_sqF hx hj] at e; exact mod_inj (x := x) hi hj (by omega))
    (fun y i j hy hi hj e => by unfold cycS at e; rw [at2_sqF hi hy, at2_sqF hj hy] at e; exact mod_inj (x := y) hi hj (by rw [Nat.add_comm y i, Nat.add_comm y j]; omega))
/-- the product of two squares -/
def prdS (n m : Nat) (A B : List (List Int)) : List (List Int) := sqF (n * m) fun x y => (m : Int) * at2 A (x / m) (y / m) + at2 B (x % m) (y % m)
theorem pair_inj {m : Nat} {a b c d : Int} (hb : 0 ≤ b ∧ b < m) (hd : 0 ≤ d ∧ d < m) (e : (m : Int) * a + b = m * c + d) : a = c ∧ b = d := by
  have : a = c := by
    rcases Int.lt_trichotomy a c with h | h | h
    · have : (m : Int) * (a + 1) ≤ m * c := Int.mul_le_mul_of_nonneg_left h (by omega)
      rw [Int.mul_add] at this; omega
    · exact h
    · have : (m : Int) * (c + 1) ≤ m * a := Int.mul_le_mul_of_nonneg_left h (by omega)
      rw [Int.mul_add] at this; omega
  subst this; exact ⟨rfl, by omega⟩
theorem prdS_lat {n m : Nat} {A B : List (List Int)} (hA : Lat A) (hB : Lat B) (ha : A.length = n) (hb : B.length = m) (hnm : n * m ≤ 10) : Lat (prdS n m A B) := by
  subst ha; subst hb
  generalize hn : A.length = n at *
  generalize hm : B.length = m at *
  have p1 : 1 ≤ n := by rw [← hn]; exact hA.pos
  have p2 : 1 ≤ m := by rw [← hm]; exact hB.pos
  have dv : ∀ x, x < n * m → x / m < n := fun x hx => Nat.div_lt_of_lt_mul (by rw [Nat.mul_comm]; exact hx)
  have md : ∀ x, x % m < m := fun x => Nat.mod_lt _ p2
  have a0 := hA.sq0
  have b0 := hB.sq0
  rw [hn] at a0
  rw [hm] at b0
  have back : ∀ i j : Nat, i / m = j / m → i % m = j % m → i = j := fun i j h1 h2 => by
    rw [← Nat.div_add_mod i m, ← Nat.div_add_mod j m, h1, h2]
  refine Lat.of (n := n * m) ⟨sqF_sqr _ _, fun x y hx hy => ?_⟩ (Nat.mul_pos p1 p2) hnm (fun x i j hx hi hj e => ?_) (fun y i j hy hi hj e => ?_)
  · unfold prdS; rw [at2_sqF hx hy]
    have h1 := a0.el _ _ (dv x hx) (dv y hy)
    have h2 := b0.el _ _ (md x) (md y)
    refine ⟨Int.add_nonneg (Int.mul_nonneg (by omega) h1.1) h2.1, ?_⟩
    have : (m : Int) * (at2 A (x / m) (y / m) + 1) ≤ m * n := Int.mul_le_mul_of_nonneg_left (by omega) (by omega)
    rw [Int.mul_add] at this
    rw [Int.natCast_mul, Int.mul_comm (n : Int)]
    omega
  · unfold prdS at e; rw [at2_sqF hx hi, at2_sqF hx hj] at e
    obtain ⟨e1, e2⟩ := pair_inj (b0.el _ _ (md x) (md i)) (b0.el _ _ (md x) (md j)) e
    exact back i j (hA.rinj (by rw [hn]; exact dv x hx) (by rw [hn]; exact dv i hi) (by rw [hn]; exact dv j hj) e1) (hB.rinj (by rw [hm]; exact md x) (by rw [hm]; exact md i) (by rw [hm]; exact md j) e2)
  · unfold prdS at e; rw [at2_sqF hi hy, at2_sqF hj hy] at e
    obtain ⟨e1, e2⟩ := pair_inj (b0.el _ _ (md i) (md y)) (b0.el _ _ (md j) (md y)) e
    exact back i j (hA.cinj (by rw [hn]; exact dv y hy) (by rw [hn]; exact dv i hi) (by rw [hn]; exact dv j hj) e1) (hB.cinj (by rw [hm]; exact md y) (by rw [hm]; exact md i) (by rw [hm]; exact md j) e2)
end Go.Proofs.Ytdlmohigkkdegaa
end

section
/- Isotopes and conjugates of Latin squares, in plain terms. Conjugates of Latin squares as lists of lists. In plain terms. -/
namespace Go.Proofs.Ytdlmohigkkdegaa
set_option linter.unusedSimpArgs false
set_option linter.unusedVariables false

structure Latin (n : Nat) (a : Nat → Nat → Nat) : Prop where
  row : ∀ x, x < n → Bij n (a x)
  col : ∀ y, y < n → Bij n fun x => a x y
def IsoOf (n : Nat) (a : Nat → Nat → Nat) (r c s : Nat → Nat) (b : Nat → Nat → Nat) : Prop := ∀ x y, x < n → y < n → b (r x) (c y) = s (a x y)
section
variable {n : Nat} {a b d : Nat → Nat → Nat} {r c s q : Nat → Nat}
theorem IsoOf.comp {r' c' s' : Nat → Nat} (hr : Bij n r) (hc : Bij n c) (h1 : IsoOf n a r c s b) (h2 : IsoOf n b r' c' s' d) : IsoOf n a (fun x => r' (r x)) (fun x => c' (c x)) (fun x => s' (s x)) d := fun x y hx hy => by
  show d (r' (r x)) (c' (c y)) = s' (s (a x y))
  rw [h2 _ _ (hr.lt x hx) (hc.lt y hy), h1 x y hx hy]
theorem IsoOf.back {ri ci si : Nat → Nat} (hl : Latin n a) (hr : Bij n r) (hc : Bij n c) (h1 : IsoOf n a r c s b) (h2 : IsoOf n b ri ci si d) (er : ∀ x, x < n → ri (r x) = x) (ec : ∀ x, x < n → ci (c x) = x) (es : ∀ x, x < n → si (s x) = x)
    {x y : Nat} (hx : x < n) (hy : y < n) : d x y = a x y := by
  have := h2 _ _ (hr.lt x hx) (hc.lt y hy)
  rw [er x hx, ec y hy, h1 x y hx hy, es _ ((hl.row x hx).lt y hy)] at this
  exact this
theorem IsoOf.latin (hl : Latin n a) (hr : Bij n r) (hc : Bij n c) (hs : Bij n s) (h : IsoOf n a r c s b) : Latin n b where
  row x hx := by
    obtain ⟨x', hx', rfl⟩ := hr.onto hx
    refine ⟨fun y hy => ?_, fun y z hy hz e => ?_⟩
    · obtain ⟨y', hy', rfl⟩ := hc.onto hy
      rw [h x' y' hx' hy']; exact hs.lt _ ((hl.row x' hx').lt y' hy')
    · obtain ⟨y', hy', rfl⟩ := hc.onto hy
      obtain ⟨z', hz', rfl⟩ := hc.onto hz
      rw [h x' y' hx' hy', h x' z' hx' hz'] at e
      rw [(hl.row x' hx').inj y' z' hy' hz' (hs.inj _ _ ((hl.row x' hx').lt y' hy') ((hl.row x' hx').lt z' hz') e)]
  col y hy := by
    obtain ⟨y', hy', rfl⟩ := hc.onto hy
    refine ⟨fun x hx => ?_, fun x z hx hz e => ?_⟩
    · obtain ⟨x', hx', rfl⟩ := hr.onto hx
      rw [h x' y' hx' hy']; exact hs.lt _ ((hl.row x' hx').lt y' hy')
    · obtain ⟨x', hx', rfl⟩ := hr.onto hx
      obtain ⟨z', hz', rfl⟩ := hr.onto hz
      rw [h x' y' hx' hy', h z' y' hz' hy'] at e
      rw [(hl.col y' hy').inj x' z' hx' hz' (hs.inj _ _ ((hl.row x' hx').lt y' hy') ((hl.row z' hz').lt y' hy') e)]
/-- the triple of a place -/
def tri (x y s : Nat) : Nat → Nat := fun i => if i = 0 then x else if i = 1 then y else s
def ConjOf (n : Nat) (a : Nat → Nat → Nat) (p : Nat → Nat) (b : Nat → Nat → Nat) : Prop := ∀ x y, x < n → y < n → b (tri x y (a x y) (p 0)) (tri x y (a x y) (p 1)) = tri x y (a x y) (p 2)
theorem tri_lt {x y s : Nat} (hx : x < n) (hy : y < n) (hs : s < n) (i : Nat) : tri x y s i < n := by
  unfold tri; split
  · exact hx
  · split
    · exact hy
    · exact hs
theorem ConjOf.comp {p q : Nat → Nat} (hl : Latin n a) (hq : Bij 3 q) (h1 : ConjOf n a p b) (h2 : ConjOf n b q d) : ConjOf n a (fun i => p (q i)) d := fun x y hx hy => by
  have hs := (hl.row x hx).lt y hy
  have h := h2 _ _ (tri_lt hx hy hs (p 0)) (tri_lt hx hy hs (p 1))
  rw [h1 x y hx hy] at h
  have e : ∀ i, i < 3 → tri (tri x y (a x y) (p 0)) (tri x y (a x y) (p 1)) (tri x y (a x y) (p 2)) i = tri x y (a x y) (p i) := fun i hi => by
    rcases i with _ | _ | _ | i
    · rfl
    · rfl
    · rfl
    · omega
  rw [e _ (hq.lt 0 (by omega)), e _ (hq.lt 1 (by omega)), e _ (hq.lt 2 (by omega))] at h
  exact h
end

section
variable {n : Nat} {a : Nat → Nat → Nat}
/-- two of the three numbers of a place tell it -/
theorem tri_inj (hl : Latin n a) {i j : Nat} (hi : i < 3) (hj : j < 3) (hij : i ≠ j) {x y x' y' : Nat} (hx : x < n) (hy : y < n) (hx' : x' < n) (hy' : y' < n)
    (e1 : tri x y (a x y) i = tri x' y' (a x' y') i) (e2 : tri x y (a x y) j = tri x' y' (a x' y') j) : x = x' ∧ y = y' := by
  have r : ∀ y y', y < n → y' < n → x = x' → a x y = a x' y' → y = y' := fun y y' hy hy' e h => by subst e; exact (hl.row x hx).inj y y' hy hy' h
  have c : y = y' → a x y = a x' y' → x = x' := fun e h => by subst e; exact (hl.col y hy).inj x x' hx hx' h
  rcases i with _ | _ | _ | i <;> rcases j with _ | _ | _ | j <;> simp [tri] at e1 e2 hij <;> first | omega | skip
  all_goals first
    | exact ⟨e1, r y y' hy hy' e1 e2⟩
    | exact ⟨c e1 e2, e1⟩
    | exact ⟨e2, r y y' hy hy' e2 e1⟩
    | exact ⟨c e2 e1, e2⟩
theorem tri_onto (hl : Latin n a) {i j : Nat} (hi : i < 3) (hj : j < 3) (hij : i ≠ j) {u v : Nat} (hu : u < n) (hv : v < n) :
    ∃ x y, x < n ∧ y < n ∧ tri x y (a x y) i = u ∧ tri x y (a x y) j = v := by
  rcases i with _ | _ | _ | i <;> rcases j with _ | _ | _ | j <;> first | omega | skip
  · exact ⟨u, v, hu, hv, rfl, rfl⟩
  · obtain ⟨y, hy, e⟩ := (hl.row u hu).onto hv
    exact ⟨u, y, hu, hy, rfl, e⟩
  · exact ⟨v, u, hv, hu, rfl, rfl⟩
  · obtain ⟨x, hx, e⟩ := (hl.col u hu).onto hv
    exact ⟨x, u, hx, hu, rfl, e⟩
  · obtain ⟨y, hy, e⟩ := (hl.row v hv).onto hu
    exact ⟨v, y, hv, hy, e, rfl⟩
  · obtain ⟨x, hx, e⟩ := (hl.col v hv).onto hu
    exact ⟨x, v, hx, hv, e, rfl⟩
end
def af (A : List (List Int)) (x y : Nat) : Nat := (at2 A x y).toNat
theorem Lat.latin {A : List (List Int)} (h : Lat A) : Latin A.length (af A) where
  row x hx := by
    have := (h.row x hx).bij
    rw [h.len x hx] at this
    exact this
  col y hy := by
    have := (h.col y hy).bij
    rw [colL_len] at this
    refine ⟨fun x hx => ?_, fun x z hx hz e => this.inj x z hx hz ?_⟩
    · have h2 := this.lt x hx
      unfold pf at h2; rw [nth_colL hx] at h2; exact h2
    · unfold pf; rw [nth_colL hx, nth_colL hz]; exact e
/-- number i of the place of a square -/
def trA (A : List (List Int)) (x y i : Nat) : Nat := tri x y (af A x y) i
structure ConR (A : List (List Int)) (p : List Int) (B : List (List Int)) : Prop where
  sqr : Sqr A.length B
  at' : ∀ x y, x < A.length → y < A.length → at2 B (trA A x y (pf p 0)) (trA A x y (pf p 1)) = trA A x y (pf p 2)
structure ConP (A : List (List Int)) (p : List Int) (x y : Nat) (B : List (List Int)) : Prop where
  sqr : Sqr A.length B
  at' : ∀ x' y', x' < A.length → y' < A.length → (x' < x ∨ x' = x ∧ y' < y) → at2 B (trA A x' y' (pf p 0)) (trA A x' y' (pf p 1)) = trA A x' y' (pf p 2)
section
variable {A B C D : List (List Int)} {p q : List Int}
theorem trA_lt (h : Lat A) {x y : Nat} (hx : x < A.length) (hy : y < A.length) (i : Nat) : trA A x y i < A.length := tri_lt hx hy ((h.latin.row x hx).lt y hy) i
theorem p3_lt (hp : IsP p) (h3 : p.length = 3) {i : Nat} (hi : i < 3) : pf p i < 3 := by have := hp.pf_lt (j := i) (by omega); omega
theorem p3_ne (hp : IsP p) (h3 : p.length = 3) {i j : Nat} (hi : i < 3) (hj : j < 3) (h : i ≠ j) : pf p i ≠ pf p j := fun e => h (hp.bij.inj i j (by omega) (by omega) e)
theorem ConP.start : ConP A p 0 0 (sqF A.length fun _ _ => 0) := ⟨sqF_sqr _ _, fun _ _ _ _ h => by omega⟩
theorem ConP.step (hA : Lat A) (hp : IsP p) (h3 : p.length = 3) {x y : Nat} {S : List (List Int)} (h : ConP A p x y S) (hx : x < A.length) (hy : y < A.length) :
    ConP A p x (y + 1) (putS S (trA A x y (pf p 0)) (trA A x y (pf p 1)) (trA A x y (pf p 2))) := by
  have h1 := trA_lt hA hx hy (pf p 0)
  have h2 := trA_lt hA hx hy (pf p 1)
  refine ⟨putS_sqr h.sqr h1 _ _, fun x' y' hx' hy' hl => ?_⟩
  rw [at2_putS h.sqr h1 h2]
  split
  · rename_i e
    obtain ⟨rfl, rfl⟩ := tri_inj hA.latin (p3_lt hp h3 (by omega)) (p3_lt hp h3 (by omega)) (p3_ne hp h3 (i := 0) (j := 1) (by omega) (by omega) (by omega)) hx hy hx' hy' e.1 e.2
    rfl
  · rename_i e
    refine h.at' x' y' hx' hy' ?_
    rcases hl with hl | ⟨rfl, hl⟩
    · exact .inl hl
    · refine .inr ⟨rfl, ?_⟩
      by_cases e2 : y' = y
      · subst e2; exact absurd ⟨rfl, rfl⟩ e
      · omega
theorem ConP.next {x : Nat} {S : List (List Int)} (h : ConP A p x A.length S) : ConP A p (x + 1) 0 S :=
  ⟨h.sqr, fun x' y' hx' hy' hl => h.at' x' y' hx' hy' (by omega)⟩
theorem ConP.done {S : List (List Int)} (h : ConP A p A.length 0 S) : ConR A p S := ⟨h.sqr, fun x y hx hy => h.at' x y hx hy (.inl hx)⟩
theorem ConR.el (hA : Lat A) (hp : IsP p) (h3 : p.length = 3) (h : ConR A p B) : Sq0 A.length B := by
  refine ⟨h.sqr, fun u v hu hv => ?_⟩
  obtain ⟨x, y, hx, hy, rfl, rfl⟩ := tri_onto hA.latin (p3_lt hp h3 (i := 0) (by omega)) (p3_lt hp h3 (i := 1) (by omega)) (p3_ne hp h3 (by omega) (by omega) (by omega)) hu hv
  have e1 := h.at' x y hx hy
  have e2 := trA_lt hA hx hy (pf p 2)
  unfold trA at e1 e2
  rw [e1]; omega
/-- conjugates are Latin squares -/
theorem ConR.lat (hA : Lat A) (hp : IsP p) (h3 : p.length = 3) (h : ConR A p B) : Lat B := by
  have h0 := h.el hA hp h3
  have hb := h.sqr.len
  have on := fun {u v : Nat} (hu : u < A.length) (hv : v < A.length) => tri_onto hA.latin (p3_lt hp h3 (i := 0) (by omega)) (p3_lt hp h3 (i := 1) (by omega)) (p3_ne hp h3 (by omega) (by omega) (by omega)) hu hv
  refine ⟨by rw [hb]; exact hA.pos, by rw [hb]; exact hA.le, fun x hx => by rw [hb] at hx ⊢; exact h0.row x hx, fun u hu => ?_, fun v hv => ?_⟩
  · rw [hb] at hu
    refine ⟨fun v hv => ?_, fun v v' hv hv' e => ?_⟩
    · rw [h0.row u hu] at hv ⊢; exact h0.el u v hu hv
    · rw [h0.row u hu] at hv hv'
      obtain ⟨x, y, hx, hy, e1, e2⟩ := on hu hv
      obtain ⟨x', y', hx', hy', e1', e2'⟩ := on hu hv'
      have f1 := h.at' x y hx hy
      have f2 := h.at' x' y' hx' hy'
      unfold trA at f1 f2
      rw [e1, e2] at f1
      rw [e1', e2'] at f2
      have e' : at2 B u v = at2 B u v' := e
      rw [f1, f2] at e'
      obtain ⟨rfl, rfl⟩ := tri_inj hA.latin (p3_lt hp h3 (by omega)) (p3_lt hp h3 (by omega)) (p3_ne hp h3 (i := 0) (j := 2) (by omega) (by omega) (by omega)) hx hy hx' hy' (e1.trans e1'.symm) (by omega)
      rw [← e2, ← e2']
  · rw [hb] at hv
    refine ⟨fun u hu => ?_, fun u u' hu hu' e => ?_⟩
    · rw [colL_len, hb] at hu ⊢; rw [nth_colL (by rw [hb]; exact hu)]; exact h0.el u v hu hv
    · rw [colL_len, hb] at hu hu'
      rw [nth_colL (by rw [hb]; exact hu), nth_colL (by rw [hb]; exact hu')] at e
      obtain ⟨x, y, hx, hy, e1, e2⟩ := on hu hv
      obtain ⟨x', y', hx', hy', e1', e2'⟩ := on hu' hv
      have f1 := h.at' x y hx hy
      have f2 := h.at' x' y' hx' hy'
      unfold trA at f1 f2
      rw [e1, e2] at f1
      rw [e1', e2'] at f2
      rw [f1, f2] at e
      obtain ⟨rfl, rfl⟩ := tri_inj hA.latin (p3_lt hp h3 (by omega)) (p3_lt hp h3 (by omega)) (p3_ne hp h3 (i := 1) (j := 2) (by omega) (by omega) (by omega)) hx hy hx' hy' (e2.trans e2'.symm) (by omega)
      rw [← e1, ← e1']
/-- conjugates of conjugates -/
theorem ConR.comp (hA : Lat A) (hp : IsP p) (hq : IsP q) (h3 : p.length = 3) (hq3 : q.length = 3) (h1 : ConR A p B) (h2 : ConR B q C) : ConR A (cmpL q p) C := by
  have hb := h1.sqr.len
  have hl := hA.latin
  refine ⟨by rw [← hb]; exact h2.sqr, fun x y hx hy => ?_⟩
  have c1 : ConjOf A.length (af A) (pf p) (af B) := fun x y hx hy => by
    have := h1.at' x y hx hy
    show (at2 B (trA A x y (pf p 0)) (trA A x y (pf p 1))).toNat = trA A x y (pf p 2)
    rw [this]; simp
  have c2 : ConjOf A.length (af B) (pf q) (af C) := fun x y hx hy => by
    have := h2.at' x y (by omega) (by omega)
    show (at2 C (trA B x y (pf q 0)) (trA B x y (pf q 1))).toNat = trA B x y (pf q 2)
    rw [this]; simp
  have hq' : Bij 3 (pf q) := by have := hq.bij; rwa [hq3] at this
  have c3 := ConjOf.comp hl hq' c1 c2 x y hx hy
  rw [pf_cmpL (by omega), pf_cmpL (by omega), pf_cmpL (by omega)]
  have hz := h2.el (h1.lat hA hp h3) hq hq3
  have z := hz.el (trA A x y (pf p (pf q 0))) (trA A x y (pf p (pf q 1))) (by rw [hb]; exact trA_lt hA hx hy _) (by rw [hb]; exact trA_lt hA hx hy _)
  have e : (af C (trA A x y (pf p (pf q 0))) (trA A x y (pf p (pf q 1))) : Int) = trA A x y (pf p (pf q 2)) := by
    unfold trA; exact congrArg Int.ofNat c3
  rw [← e]; unfold af; omega
end

end Go.Proofs.Ytdlmohigkkdegaa
end

section
/- Latin squares that are made from groups: the quadrangle criterion; reduced squares. In plain terms. -/
namespace Go.Proofs.Ytdlmohigkkdegaa
set_option linter.unusedSimpArgs false
set_option linter.unusedVariables false
/-- the operation is associative -/
def Asc (n : Nat) (a : Nat → Nat → Nat) : Prop := ∀ x y z, x < n → y < n → z < n → a (a x y) z = a x (a y z)
/-- quadrangles fit together -/
def Quad (n : Nat) (a : Nat → Nat → Nat) : Prop := ∀ r s c d u v e f, r < n → s < n → c < n → d < n → u < n → v < n → e < n → f < n → a u e = a r c → a u f = a r d → a v e = a s c → a s d = a v f
section
variable {n : Nat} {a b : Nat → Nat → Nat}
theorem quad_of_asc (h : Latin n a) (ha : Asc n a) : Quad n a := fun r s c d u v e f hr hs hc hd hu hv he hf e1 e2 e3 => by
  obtain ⟨t, ht, rfl⟩ := (h.row u hu).onto hr
  rw [ha u t c hu ht hc] at e1
  rw [ha u t d hu ht hd] at e2
  have k1 := (h.row u hu).inj e (a t c) he ((h.row t ht).lt c hc) e1
  have k2 := (h.row u hu).inj f (a t d) hf ((h.row t ht).lt d hd) e2
  subst k1; subst k2
  rw [← ha v t c hv ht hc] at e3
  have k3 := (h.col c hc).inj (a v t) s ((h.row v hv).lt t ht) hs e3
  rw [← k3, ha v t d hv ht hd]
theorem asc_of_quad (h : Latin n a) (hq : Quad n a) (u1 : ∀ y, y < n → a 0 y = y) (u2 : ∀ x, x < n → a x 0 = x) : Asc n a := fun x y z hx hy hz => by
  have h0 : 0 < n := by omega
  have hxy := (h.row x hx).lt y hy
  have hyz := (h.row y hy).lt z hz
  exact hq y (a x y) 0 z 0 x y (a y z) hy hxy h0 hz h0 hx hy hyz (by rw [u1 y hy, u2 y hy]) (by rw [u1 _ hyz]) (by rw [u2 _ hxy])
theorem quad_iso {r c s : Nat → Nat} (h : Latin n a) (hr : Bij n r) (hc : Bij n c) (hs : Bij n s) (hi : IsoOf n a r c s b) : Quad n b ↔ Quad n a := by
  constructor
  · intro hq x1 x2 y1 y2 x3 x4 y3 y4 h1 h2 h3 h4 h5 h6 h7 h8 e1 e2 e3
    have q := hq (r x1) (r x2) (c y1) (c y2) (r x3) (r x4) (c y3) (c y4) (hr.lt _ h1) (hr.lt _ h2) (hc.lt _ h3) (hc.lt _ h4) (hr.lt _ h5) (hr.lt _ h6) (hc.lt _ h7) (hc.lt _ h8)
      (by rw [hi _ _ h5 h7, hi _ _ h1 h3, e1]) (by rw [hi _ _ h5 h8, hi _ _ h1 h4, e2]) (by rw [hi _ _ h6 h7, hi _ _ h2 h3, e3])
    rw [hi _ _ h2 h4, hi _ _ h6 h8] at q
    exact hs.inj _ _ ((h.row _ h2).lt _ h4) ((h.row _ h6).lt _ h8) q
  · intro hq x1 x2 y1 y2 x3 x4 y3 y4 h1 h2 h3 h4 h5 h6 h7 h8 e1 e2 e3
    obtain ⟨x1, k1, rfl⟩ := hr.onto h1
    obtain ⟨x2, k2, rfl⟩ := hr.onto h2
    obtain ⟨y1, k3, rfl⟩ := hc.onto h3
    obtain ⟨y2, k4, rfl⟩ := hc.onto h4
    obtain ⟨x3, k5, rfl⟩ := hr.onto h5
    obtain ⟨x4, k6, rfl⟩ := hr.onto h6
    obtain ⟨y3, k7, rfl⟩ := hc.onto h7
    obtain ⟨y4, k8, rfl⟩ := hc.onto h8
    clear h1 h2 h3 h4 h5 h6 h7 h8
    rw [hi _ _ k5 k7, hi _ _ k1 k3] at e1
    rw [hi _ _ k5 k8, hi _ _ k1 k4] at e2
    rw [hi _ _ k6 k7, hi _ _ k2 k3] at e3
    have k := fun x y x' y' (hx : x < n) (hy : y < n) (hx' : x' < n) (hy' : y' < n) (e : s (a x y) = s (a x' y')) => hs.inj _ _ ((h.row x hx).lt y hy) ((h.row x' hx').lt y' hy') e
    rw [hi _ _ k2 k4, hi _ _ k6 k8, hq x1 x2 y1 y2 x3 x4 y3 y4 k1 k2 k3 k4 k5 k6 k7 k8 (k _ _ _ _ k5 k7 k1 k3 e1) (k _ _ _ _ k5 k8 k1 k4 e2) (k _ _ _ _ k6 k7 k2 k3 e3)]
end
/-! ### squares as lists -/
theorem isoL_isoOf {A : List (List Int)} {r c s : List Int} (h : Lat A) (hr : IsP r) (hc : IsP c) (hs : IsP s) (hrl : r.length = A.length) (hcl : c.length = A.length) (hsl : s.length = A.length) :
    IsoOf A.length (af A) (pf r) (pf c) (pf s) (af (isoL A r c s)) := fun x y hx hy => by
  have := h.sq0.el x y hx hy
  unfold af
  rw [isoL_at hr hc hrl hcl hx hy]
  rfl
/-- the square answers to a group -/
def GrpB (A : List (List Int)) : Prop := Quad A.length (af A)
theorem GrpB.iso {A : List (List Int)} {r c s : List Int} (h : Lat A) (hr : IsP r) (hc : IsP c) (hs : IsP s) (hrl : r.length = A.length) (hcl : c.length = A.length) (hsl : s.length = A.length) : GrpB (isoL A r c s) ↔ GrpB A := by
  unfold GrpB
  rw [isoL_len]
  exact quad_iso h.latin (by rw [← hrl]; exact hr.bij) (by rw [← hcl]; exact hc.bij) (by rw [← hsl]; exact hs.bij) (isoL_isoOf h hr hc hs hrl hcl hsl)
theorem pf_iot {n x : Nat} (h : x < n) : pf (iot n) x = x := by unfold pf; rw [nth_iot h]; rfl
/-- the columns in the order of the first row -/
def ordL (A : List (List Int)) : List (List Int) := isoL A (iot A.length) (xat A 0) (iot A.length)
/-- the reduced square -/
def redL (A : List (List Int)) : List (List Int) := isoL (ordL A) (colL (ordL A) 0) (iot A.length) (iot A.length)
section
variable {A : List (List Int)} (h : Lat A)
include h
theorem Lat.row0 : IsP (xat A 0) ∧ (xat A 0).length = A.length := ⟨h.row 0 (by have := h.pos; omega), h.len 0 (by have := h.pos; omega)⟩
theorem ordL_lat : Lat (ordL A) := h.iso (iot_isP _) h.row0.1 (iot_isP _) (iot_len _) h.row0.2 (iot_len _)
omit h in
theorem ordL_len : (ordL A).length = A.length := isoL_len _ _ _ _
omit h in
theorem redL_len : (redL A).length = A.length := (isoL_len _ _ _ _).trans ordL_len
theorem ordL_at {x y : Nat} (hx : x < A.length) (hy : y < A.length) : at2 (ordL A) x (af A 0 y) = at2 A x y := by
  have e := isoL_at (A := A) (r := iot A.length) (c := xat A 0) (s := iot A.length) (iot_isP _) h.row0.1 (iot_len _) h.row0.2 hx hy
  rw [pf_iot hx] at e
  have h3 := h.sq0.el x y hx hy
  rw [nth_iot (by omega)] at e
  show at2 (isoL A _ _ _) x (pf (xat A 0) y) = _
  rw [e]; omega
theorem ordL_0 {y : Nat} (hy : y < A.length) : at2 (ordL A) 0 y = y := by
  obtain ⟨z, hz, rfl⟩ := h.row0.1.bij.onto (y := y) (by rw [h.row0.2]; exact hy)
  rw [h.row0.2] at hz
  have := ordL_at h (x := 0) h.pos hz
  show at2 (ordL A) 0 (af A 0 z) = _
  rw [this]
  have := h.sq0.el 0 z h.pos hz
  show _ = ((at2 A 0 z).toNat : Int)
  omega
theorem colP : IsP (colL (ordL A) 0) ∧ (colL (ordL A) 0).length = A.length := ⟨(ordL_lat h).col 0 (by rw [ordL_len]; exact h.pos), by rw [colL_len, ordL_len]⟩
theorem redL_at {x y : Nat} (hx : x < A.length) (hy : y < A.length) : at2 (redL A) (pf (colL (ordL A) 0) x) y = at2 (ordL A) x y := by
  have hl := ordL_len (A := A)
  have e := isoL_at (A := ordL A) (r := colL (ordL A) 0) (c := iot A.length) (s := iot A.length) (colP h).1 (iot_isP _) (by rw [(colP h).2, hl]) (by rw [iot_len, hl]) (x := x) (y := y) (by rw [hl]; exact hx) (by rw [hl]; exact hy)
  rw [pf_iot hy] at e
  have h3 := (ordL_lat h).sq0.el x y (by rw [hl]; exact hx) (by rw [hl]; exact hy)
  rw [hl] at h3
  rw [nth_iot (by omega)] at e
  rw [redL, e]; omega
theorem col0 : pf (colL (ordL A) 0) 0 = 0 := by
  unfold pf; rw [nth_colL (by rw [ordL_len]; exact h.pos), ordL_0 h h.pos]; rfl
theorem redL_lat : Lat (redL A) := (ordL_lat h).iso (colP h).1 (iot_isP _) (iot_isP _) (by rw [(colP h).2, ordL_len]) (by rw [iot_len, ordL_len]) (by rw [iot_len, ordL_len])
theorem redL_row {y : Nat} (hy : y < A.length) : at2 (redL A) 0 y = y := by
  have e := redL_at h (x := 0) h.pos hy
  rw [col0 h] at e
  rw [e, ordL_0 h hy]
theorem redL_col {x : Nat} (hx : x < A.length) : at2 (redL A) x 0 = x := by
  obtain ⟨z, hz, rfl⟩ := (colP h).1.bij.onto (y := x) (by rw [(colP h).2]; exact hx)
  rw [(colP h).2] at hz
  rw [redL_at h hz h.pos]
  have := nth_pf (colP h).1 (j := z) (by rw [(colP h).2]; exact hz)
  rw [← this, nth_colL (by rw [ordL_len]; exact hz)]
theorem GrpB.red : GrpB (redL A) ↔ GrpB A := by
  rw [redL, GrpB.iso (ordL_lat h) (colP h).1 (iot_isP _) (iot_isP _) (by rw [(colP h).2, ordL_len]) (by rw [iot_len, ordL_len]) (by rw [iot_len, ordL_len]), ordL, GrpB.iso h (iot_isP _) h.row0.1 (iot_isP _) (iot_len _) h.row0.2 (iot_len _)]
/-- the square answers to a group exactly if its reduced form is associative -/
theorem GrpB.asc : Asc A.length (af (redL A)) ↔ GrpB A := by
  have hl := redL_len (A := A)
  have hL := (redL_lat h).latin
  rw [← GrpB.red h, GrpB]
  rw [hl] at hL ⊢
  exact ⟨quad_of_asc hL, fun hq => asc_of_quad hL hq (fun y hy => by unfold af; rw [redL_row h hy]; rfl) (fun x hx => by unfold af; rw [redL_col h hx]; rfl)⟩
/-- an associative square answers to a group -/
theorem GrpB.of_asc (ha : Asc A.length (af A)) : GrpB A := quad_of_asc h.latin ha
end
end Go.Proofs.Ytdlmohigkkdegaa
end

section
/- Walks: forAll, forPairs and what is asked through them of a square. -/
namespace Go.Proofs.Ytdlmohigkkdegaa
set_option linter.unusedSimpArgs false
set_option linter.unusedVariables false
open Go.RowKit
attribute [local go_sem ↓] Go.wp_at_zero Go.wp_at_succ

/-- it holds of all numbers below n -/
def allB (n : Nat) (p : Nat → Bool) : Bool := (List.range n).all p
theorem allB_iff {n : Nat} {p : Nat → Bool} : allB n p = true ↔ ∀ x, x < n → p x = true := by
  unfold allB; rw [List.all_eq_true]; simp only [List.mem_range]
theorem allB_no {n : Nat} {p : Nat → Bool} {x : Nat} (hx : x < n) (h : p x = false) : allB n p = false := by
  cases e : allB n p
  · rfl
  · rw [allB_iff.1 e x hx] at h; cases h
set_option maxHeartbeats 2000000 in
set_option maxRecDepth 100000 in
theorem forAll_c (K : FuncId) (caps : Array Value) (p : Nat → Bool) (v : Value) (us : List Value) (A : List (List Int)) (w : World) (hv : RII w v us A)
    (hcf : ∀ (args : Array Value) (W : World), (callFunc K args).run Try.prog W = .ok (.enter K args) W)
    (hK : ∀ (x : Nat) (W : World), St w.heap.size w W [] → x < A.length → Calls Try.prog K (#[.int .i64 x] ++ caps) W (GivesB W (p x))) :
    Calls Try.prog 38 #[v, .func (.func K) #[] caps] w (GivesB w (allB A.length p)) := by
  have HK := Lib.hid hK
  clear hK
  have hln := hv.len
  have hle := hv.le
  go_enter Try.func38, Try.ntmps38
  go_wp2_with fail
  go_loopw [8, 5] (fun i _ wr => ∃ k : Nat, k ≤ A.length ∧ i = .int .i64 k ∧ Hid (∀ x, x < k → p x = true) ∧ St w.heap.size w wr []) (fun i _ _ => A.length - (intOf i).toNat)
  case atStart => exact ⟨0, by omega, rfl, fun x hx => by omega, St.refl w⟩
  case round =>
    obtain ⟨k, hk, rfl, hI, hS⟩ := hrel
    by_cases hlt : k < A.length
    · have hki : (k : Int) < (A.length : Int) := by omega
      cases hp : p k
      · have Hr : Hid (allB A.length p = false) := Lib.hid (allB_no hlt hp)
        have KK := Lib.hid (HK.out k wr hS hlt)
        rw [hp] at KK
        clear hp
        go_wp2_with fail
        refine KK.out.mono ?_
        rintro e w2 ⟨rfl, h2⟩
        have hS2 := hS.call0 h2
        go_wp2_with fail
        go_ret
        exact ⟨ret_bool Hr.out.symm, hS2⟩
      · have HI2 := Lib.hid (show ∀ x, x < k + 1 → p x = true from fun x hx => by
          by_cases e : x = k
          · rw [e]; exact hp
          · exact hI.out x (by omega))
        have KK := Lib.hid (HK.out k wr hS hlt)
        rw [hp] at KK
        clear hp
        go_wp2_with fail
        refine KK.out.mono ?_
        rintro e w2 ⟨rfl, h2⟩
        have hS2 := hS.call0 h2
        go_wp2_with fail
        go_roundw
        case rel => exact ⟨k + 1, by omega, by go_num, HI2.out, hS2⟩
        case measure => simp [intOf]; omega
    · obtain rfl : k = A.length := by omega
      have Hr : Hid (allB A.length p = true) := Lib.hid (allB_iff.2 hI.out)
      go_wp2_with fail
      go_ret
      exact ⟨ret_bool Hr.out.symm, hS⟩
/-! ### pairs -/
set_option maxHeartbeats 2000000 in
set_option maxRecDepth 100000 in
theorem fp2_c (K : FuncId) (caps : Array Value) (b : Bool) (g1 g2 : Nat) (x y : Nat) (W : World) (h1 : W.cell? ⟨g1, 0, none⟩ = some (.func (.func K) #[] caps)) (h2 : W.cell? ⟨g2, 0, none⟩ = some (.int .i64 x))
    (hcf : ∀ (args : Array Value) (W : World), (callFunc K args).run Try.prog W = .ok (.enter K args) W)
    (hK : Calls Try.prog K (#[.int .i64 x, .int .i64 y] ++ caps) W (GivesB W b)) :
    Calls Try.prog 78 #[.int .i64 y, .pointer (some ⟨g1, 0, none⟩), .pointer (some ⟨g2, 0, none⟩)] W (GivesB W b) := by
  have HK := Lib.hid hK
  clear hK
  go_enter Try.func78, Try.ntmps78
  go_wp2_with fail
  refine HK.out.mono ?_
  rintro e w2 ⟨rfl, h3⟩
  go_wp2_with fail
  go_ret
  exact ⟨rfl, h3⟩
set_option maxHeartbeats 2000000 in
set_option maxRecDepth 100000 in
theorem fp1_c (K : FuncId) (caps : Array Value) (p : Nat → Bool) (g0 g1 : Nat) (x : Nat) (a : Option Addr) (c : Nat) (us : List Value) (A : List (List Int)) (W : World) (hv : RII W (.slice a A.length c) us A)
    (h0 : W.cell? ⟨g0, 0, none⟩ = some (.slice a A.length c)) (h1 : W.cell? ⟨g1, 0, none⟩ = some (.func (.func K) #[] caps))
    (hcf : ∀ (args : Array Value) (W : World), (callFunc K args).run Try.prog W = .ok (.enter K args) W)
    (hK : ∀ (y : Nat) (W' : World), St W.heap.size W W' [] → y < A.length → Calls Try.prog K (#[.int .i64 x, .int .i64 y] ++ caps) W' (GivesB W' (p y))) :
    Calls Try.prog 77 #[.int .i64 x, .pointer (some ⟨g0, 0, none⟩), .pointer (some ⟨g1, 0, none⟩)] W (GivesB W (allB A.length p)) := by
  have hS1 := (St.refl W).newboxF 2 #[.int .i64 x]
  have hcf2 := callFunc_go Try.func78 (by kernel_rfl) (by kernel_rfl)
  have hmf : ∀ (fn : Fn) (first cap : Array Value) (w : World), (Instr.makeFunc fn first cap).run Try.prog w = .ok (.func fn first cap) w := fun _ _ _ _ => rfl
  have hcall := Lib.hid (forAll_c 78 #[.pointer (some ⟨g1, 0, none⟩), .pointer (some ⟨W.heap.size, 0, none⟩)] p (.slice a A.length c) us A _ (hS1.oldII hv) hcf2 (fun y W' hW hy =>
    fp2_c K caps (p y) g1 W.heap.size x y W' (by rw [(hS1.call0 hW).out.below.cell (World.block_lt_of_cell? _ _ h1)]; exact h1) ((hS1.call0 hW).bcell 0 rfl 0 rfl) hcf (hK y W' (hS1.call0 hW).out hy)))
  have b0 := hS1.out.below.cell (World.block_lt_of_cell? _ _ h0)
  rw [h0] at b0
  clear hcf hcf2 hK
  go_enter Try.func77, Try.ntmps77
  go_wp2_with fail
  refine hcall.out.mono ?_
  rintro e w2 ⟨rfl, h3⟩
  have hS2 := hS1.call0 h3
  go_wp2_with fail
  go_ret
  exact ⟨rfl, hS2.out⟩
set_option maxHeartbeats 2000000 in
set_option maxRecDepth 100000 in
theorem forPairs_c (K : FuncId) (caps : Array Value) (p : Nat → Nat → Bool) (a : Option Addr) (c : Nat) (us : List Value) (A : List (List Int)) (w : World) (hv : RII w (.slice a A.length c) us A)
    (hcf : ∀ (args : Array Value) (W : World), (callFunc K args).run Try.prog W = .ok (.enter K args) W)
    (hK : ∀ (x y : Nat) (W : World), St w.heap.size w W [] → x < A.length → y < A.length → Calls Try.prog K (#[.int .i64 x, .int .i64 y] ++ caps) W (GivesB W (p x y))) :
    Calls Try.prog 35 #[.slice a A.length c, .func (.func K) #[] caps] w (GivesB w (allB A.length fun x => allB A.length (p x))) := by
  have hS1 := ((St.refl w).newboxF 24 #[.slice a A.length c]).newboxF 56 #[.func (.func K) #[] caps]
  simp only [World.size_alloc] at hS1
  have hcf2 := callFunc_go Try.func77 (by kernel_rfl) (by kernel_rfl)
  have hmf : ∀ (fn : Fn) (first cap : Array Value) (w : World), (Instr.makeFunc fn first cap).run Try.prog w = .ok (.func fn first cap) w := fun _ _ _ _ => rfl
  have hcall := Lib.hid (forAll_c 77 #[.pointer (some ⟨w.heap.size, 0, none⟩), .pointer (some ⟨w.heap.size + 1, 0, none⟩)] (fun x => allB A.length (p x)) (.slice a A.length c) us A _ (hS1.oldII hv) hcf2 (fun x W' hW hx =>
    fp1_c K caps (p x) w.heap.size (w.heap.size + 1) x a c us A W' ((hS1.call0 hW).oldII hv) ((hS1.call0 hW).bcell 1 rfl 0 rfl) ((hS1.call0 hW).bcell 0 rfl 0 rfl) hcf (fun y W2 h2 hy => hK x y W2 ((hS1.call0 hW).call0 h2).out hx hy)))
  have b0 := hS1.bcell 1 rfl 0 rfl
  clear hcf hcf2 hK
  go_enter Try.func35, Try.ntmps35
  go_wp2_with fail
  refine hcall.out.mono ?_
  rintro e w2 ⟨rfl, h3⟩
  have hS2 := hS1.call0 h3
  go_wp2_with fail
  go_ret
  exact ⟨rfl, hS2.out⟩
end Go.Proofs.Ytdlmohigkkdegaa
end

section
/- Walks: arrays by value. Walks: valid arrays, equal arrays. -/
namespace Go.Proofs.Ytdlmohigkkdegaa
set_option linter.unusedSimpArgs false
set_option linter.unusedVariables false
open Go.RowKit


/-- an array as a value -/
def av (lv co : Int) (v : Value) : Value := .agg #[.int .i64 lv, .int .i64 co, v]

/-- a block that holds an array -/
def BoxA (w : World) (g : Nat) (lv co : Int) (v : Value) : Prop :=
  w.cell? ⟨g, 0, none⟩ = some (.int .i64 lv) ∧ w.cell? ⟨g, 1, none⟩ = some (.int .i64 co) ∧ w.cell? ⟨g, 2, none⟩ = some v
theorem cell_keep {w w' : World} (hb : Below w.heap.size w w') {p : Addr} {u : Value} (h : w.cell? p = some u) : w'.cell? p = some u := by
  rw [hb.cell (World.block_lt_of_cell? _ _ h)]; exact h
theorem BoxA.keep {w w' : World} {g : Nat} {lv co : Int} {v : Value} (h : BoxA w g lv co v) (hb : Below w.heap.size w w') : BoxA w' g lv co v :=
  ⟨cell_keep hb h.1, cell_keep hb h.2.1, cell_keep hb h.2.2⟩
end Go.Proofs.Ytdlmohigkkdegaa
end

section
/- Walks: equal lists, equal lists of lists, equal arrays. -/
namespace Go.Proofs.Ytdlmohigkkdegaa
set_option linter.unusedSimpArgs false
set_option linter.unusedVariables false
open Go.RowKit

set_option maxHeartbeats 1000000 in
set_option maxRecDepth 100000 in
theorem Equal_c (va vb : Value) (xs ys : List Int) (w : World) (ha : RdI w va xs) (hb : RdI w vb ys) :
    Calls Try.prog 88 #[va, vb] w (GivesB w (decide (xs = ys))) := by
  have hla := ha.len
  have hlb := hb.len
  have hia := ha.ix
  have hib := hb.ix
  have hma := ha.le
  by_cases hne : xs.length = ys.length
  · have f0 : ((xs.length : Int) != (ys.length : Int)) = false := ne_f (by omega)
    have hle : xs.length ≤ ys.length := by omega
    have Hne := Lib.hid hne; clear hne
    go_enter Try.func88, Try.ntmps88
    go_wp2_with fail
    go_loopw [5, 13] (fun _ i wr => ∃ k : Nat, k ≤ xs.length ∧ i = .int .i64 k ∧ Hid (∀ j, j < k → nth xs j = nth ys j) ∧ St w.heap.size w wr []) (fun _ i _ => xs.length - (intOf i).toNat)
    case atStart => exact ⟨0, by omega, rfl, fun j hj => by omega, St.refl w⟩
    case round =>
      obtain ⟨k, hk, rfl, hI, hS⟩ := hrel
      by_cases hlt : k < xs.length
      · have hqa := fun s : SS w.heap.size w [] => (s.st.oldI ha).cell k hlt
        have hqb := fun s : SS w.heap.size w [] => (s.st.oldI hb).cell k (by omega)
        have hk2 : k < ys.length := by omega
        by_cases h1 : nth xs k = nth ys k
        · have f1 := ne_f h1
          have H1 := Lib.hid h1; clear h1
          go_wp2_with fail
          have hne : Nonempty (SS _ _ _) := ⟨⟨_, hS⟩⟩
          refine wp_region_st (by kernel_rfl) (by kernel_rfl) hS ?_
          repeat (go_big_quiet_step (fail))
          refine wpQuiet_nil ?_
          rintro _ ⟨s2, rfl⟩
          have hS2 := s2.st
          generalize s2.w = w2 at hS2 ⊢
          go_wp2_with fail
          go_roundw
          case rel => exact ⟨k + 1, by omega, by go_num, fun j hj => by
            by_cases e : j = k
            · subst e; exact H1.out
            · exact hI.out j (by omega), hS2⟩
          case measure => simp [intOf]; omega
        · have f1 := ne_t h1
          have H1 := Lib.hid h1; clear h1
          go_wp2_with fail
          have hne : Nonempty (SS _ _ _) := ⟨⟨_, hS⟩⟩
          refine wp_region_st (by kernel_rfl) (by kernel_rfl) hS ?_
          repeat (go_big_quiet_step (fail))
          refine wpQuiet_nil ?_
          rintro _ ⟨s2, rfl⟩
          have hS2 := s2.st
          generalize s2.w = w2 at hS2 ⊢
          go_wp2_with fail
          go_ret
          exact ⟨ret_bool (by symm; rw [decide_eq_false_iff_not]; intro e; subst e; exact H1.out rfl), hS2⟩
      · go_wp2_with fail
        go_ret
        refine ⟨ret_bool ?_, hS⟩
        symm; rw [decide_eq_true_iff]
        apply List.ext_getElem Hne.out
        intro j h1 h2
        have := hI.out j (by omega)
        rwa [nth_eq h1, nth_eq h2] at this
  · have f0 : ((xs.length : Int) != (ys.length : Int)) = true := ne_t (by omega)
    have Hne := Lib.hid hne; clear hne
    go_enter Try.func88, Try.ntmps88
    go_wp2_with fail
    go_ret
    exact ⟨ret_bool (by symm; rw [decide_eq_false_iff_not]; intro e; exact Hne.out (by rw [e])), St.refl w⟩

end Go.Proofs.Ytdlmohigkkdegaa
end

section
/- Walks: identities of quasigroups. -/
namespace Go.Proofs.Ytdlmohigkkdegaa
set_option linter.unusedSimpArgs false
set_option linter.unusedVariables false
open Go.RowKit
attribute [local go_sem ↓] Go.wp_at_zero Go.wp_at_succ

theorem beq_dec (a b : Int) : (a == b) = decide (a = b) := by rw [Bool.eq_iff_iff, beq_iff_eq, decide_eq_true_iff]
/-- an entry as a number -/
theorem ent {n : Nat} {A : List (List Int)} (h : Sq0 n A) {x y : Nat} (hx : x < n) (hy : y < n) : at2 A x y = (af A x y : Int) ∧ af A x y < n := by
  have := h.el x y hx hy; unfold af; omega
theorem keepc {w W : World} {L : List Ent} {g : Nat} {v : Value} (h : w.cell? ⟨g, 0, none⟩ = some v) (hS : St w.heap.size w W L) : W.cell? ⟨g, 0, none⟩ = some v := by
  rw [hS.below.cell (World.block_lt_of_cell? _ _ h)]; exact h
/-- what is known of a square behind a box -/
structure BxS (W : World) (g : Nat) (a : Option Addr) (c : Nat) (us : List Value) (A : List (List Int)) : Prop where
  rd : RII W (.slice a A.length c) us A
  bx : W.cell? ⟨g, 0, none⟩ = some (.slice a A.length c)
theorem BxS.keep {W W' : World} {L : List Ent} {g : Nat} {a : Option Addr} {c : Nat} {us : List Value} {A : List (List Int)} (h : BxS W g a c us A) (hS : St W.heap.size W W' L) : BxS W' g a c us A := ⟨hS.oldII h.rd, keepc h.bx hS⟩
section
variable {W : World} {g : Nat} {a : Option Addr} {c : Nat} {us : List Value} {A : List (List Int)}
theorem BxS.row (h : BxS W g a c us A) {x : Nat} (hx : x < A.length) : W.cell? (el (.slice a A.length c) x) = some (vat us x) := h.rd.cell x hx
theorem BxS.ent (h : BxS W g a c us A) (hA : Sq0 A.length A) {x y : Nat} (hx : x < A.length) (hy : y < A.length) : W.cell? (el (vat us x) y) = some (.int .i64 (at2 A x y)) := (h.rd.row x hx).cell y (by rw [hA.row x hx]; exact hy)
theorem BxS.ix (h : BxS W g a c us A) {x : Nat} (hx : x < A.length) : ∀ V : World, (Instr.indexAt 24 (.slice a A.length c) (.int .i64 (x : Int))).run Try.prog V = .ok (.pointer (some (el (.slice a A.length c) x))) V := h.rd.ixe (x : Int) x rfl hx
theorem BxS.ixr (h : BxS W g a c us A) (hA : Sq0 A.length A) {x y : Nat} (hx : x < A.length) (hy : y < A.length) : ∀ V : World, (Instr.indexAt 28 (vat us x) (.int .i64 (y : Int))).run Try.prog V = .ok (.pointer (some (el (vat us x) y))) V := (h.rd.row x hx).ixe (y : Int) y rfl (by rw [hA.row x hx]; exact hy)
end
/-! ### associativity -/
def ascP (A : List (List Int)) (x y z : Nat) : Bool := decide (at2 A (af A x y) z = at2 A x (af A y z))
def ascB (A : List (List Int)) : Bool := allB A.length fun x => allB A.length fun y => allB A.length fun z => ascP A x y z
theorem ascB_iff {A : List (List Int)} (h : Sq0 A.length A) : ascB A = true ↔ Asc A.length (af A) := by
  unfold ascB Asc
  simp only [allB_iff, ascP, decide_eq_true_iff]
  constructor
  · intro k x y z hx hy hz
    have := k x hx y hy z hz
    show (at2 A (af A x y) z).toNat = (at2 A x (af A y z)).toNat
    rw [this]
  · intro k x hx y hy z hz
    have h1 := ent h (ent h hx hy).2 hz
    have h2 := ent h hx (ent h hy hz).2
    rw [h1.1, h2.1, k x y z hx hy hz]
set_option maxHeartbeats 4000000 in
set_option maxRecDepth 100000 in
theorem asc2_c (g1 g2 g3 : Nat) (x y z : Nat) (a : Option Addr) (c : Nat) (us : List Value) (A : List (List Int)) (W : World) (hb : BxS W g1 a c us A) (hA : Sq0 A.length A)
    (h2 : W.cell? ⟨g2, 0, none⟩ = some (.int .i64 x)) (h3 : W.cell? ⟨g3, 0, none⟩ = some (.int .i64 y)) (hx : x < A.length) (hy : y < A.length) (hz : z < A.length) :
    Calls Try.prog 73 #[.int .i64 z, .pointer (some ⟨g1, 0, none⟩), .pointer (some ⟨g2, 0, none⟩), .pointer (some ⟨g3, 0, none⟩)] W (GivesB W (ascP A x y z)) := by
  have HP := Lib.hid (show ascP A x y z = decide (at2 A (af A x y) z = at2 A x (af A y z)) from rfl)
  obtain ⟨e1, m1⟩ := ent hA hx hy
  obtain ⟨e2, m2⟩ := ent hA hy hz
  have s0 := fun q : SS W.heap.size W [] => (hb.keep q.st).bx
  have s2 := fun q : SS W.heap.size W [] => keepc h2 q.st
  have s3 := fun q : SS W.heap.size W [] => keepc h3 q.st
  have r1 := fun q : SS W.heap.size W [] => (hb.keep q.st).row hx
  have r2 := fun q : SS W.heap.size W [] => (hb.keep q.st).row hy
  have r3 := fun q : SS W.heap.size W [] => (hb.keep q.st).row m1
  have c1 := fun q : SS W.heap.size W [] => (hb.keep q.st).ent hA hx hy
  have c2 := fun q : SS W.heap.size W [] => (hb.keep q.st).ent hA hy hz
  have c3 := fun q : SS W.heap.size W [] => (hb.keep q.st).ent hA m1 hz
  have c4 := fun q : SS W.heap.size W [] => (hb.keep q.st).ent hA hx m2
  have i1 := hb.ix hx
  have i2 := hb.ix hy
  have i3 := hb.ix m1
  have j1 := hb.ixr hA hx hy
  have j2 := hb.ixr hA hy hz
  have j3 := hb.ixr hA m1 hz
  have j4 := hb.ixr hA hx m2
  rw [e1] at c1
  rw [e2] at c2
  generalize af A x y = m at *
  generalize af A y z = k at *
  generalize at2 A m z = p at *
  generalize at2 A x k = q at *
  clear hb h2 h3 e1 e2 m1 m2 hx hy hz
  have hS := St.refl W
  go_enter Try.func73, Try.ntmps73
  go_wp2_with fail
  have hne : Nonempty (SS _ _ _) := ⟨⟨_, hS⟩⟩
  refine wp_region_st (by kernel_rfl) (by kernel_rfl) hS ?_
  repeat (go_big_quiet_step (fail))
  refine wpQuiet_nil ?_
  rintro _ ⟨s2, rfl⟩
  have hS2 := s2.st
  generalize s2.w = w2 at hS2 ⊢
  go_wp2_with fail
  go_ret
  exact ⟨ret_bool (by rw [HP.out, beq_dec]), hS2⟩
set_option maxHeartbeats 4000000 in
set_option maxRecDepth 100000 in
theorem asc1_c (g : Nat) (x y : Nat) (a : Option Addr) (c : Nat) (us : List Value) (A : List (List Int)) (W : World) (hb : BxS W g a c us A) (hA : Sq0 A.length A) (hx : x < A.length) (hy : y < A.length) :
    Calls Try.prog 72 #[.int .i64 x, .int .i64 y, .pointer (some ⟨g, 0, none⟩)] W (GivesB W (allB A.length fun z => ascP A x y z)) := by
  have hS1 := ((St.refl W).newboxF 2 #[.int .i64 x]).newboxF 2 #[.int .i64 y]
  simp only [World.size_alloc] at hS1
  have hcf := callFunc_go Try.func73 (by kernel_rfl) (by kernel_rfl)
  have hmf : ∀ (fn : Fn) (first cap : Array Value) (w : World), (Instr.makeFunc fn first cap).run Try.prog w = .ok (.func fn first cap) w := fun _ _ _ _ => rfl
  have hcall := Lib.hid (forAll_c 73 #[.pointer (some ⟨g, 0, none⟩), .pointer (some ⟨W.heap.size, 0, none⟩), .pointer (some ⟨W.heap.size + 1, 0, none⟩)] (fun z => ascP A x y z) (.slice a A.length c) us A _ (hS1.oldII hb.rd) hcf (fun z W' hW hz =>
    asc2_c g W.heap.size (W.heap.size + 1) x y z a c us A W' (hb.keep (hS1.call0 hW).out) hA ((hS1.call0 hW).bcell 1 rfl 0 rfl) ((hS1.call0 hW).bcell 0 rfl 0 rfl) hx hy hz))
  have b0 := keepc hb.bx hS1
  clear hcf hA hb
  go_enter Try.func72, Try.ntmps72
  go_wp2_with fail
  refine hcall.out.mono ?_
  rintro e w2 ⟨rfl, h3⟩
  have hS2 := hS1.call0 h3
  go_wp2_with fail
  go_ret
  exact ⟨rfl, hS2.out⟩
set_option maxHeartbeats 4000000 in
set_option maxRecDepth 100000 in
theorem associative_c (a : Option Addr) (c : Nat) (us : List Value) (A : List (List Int)) (w : World) (hv : RII w (.slice a A.length c) us A) (hA : Sq0 A.length A) :
    Calls Try.prog 31 #[.slice a A.length c] w (GivesB w (ascB A)) := by
  have hS1 := (St.refl w).newboxF 24 #[.slice a A.length c]
  have hcf := callFunc_go Try.func72 (by kernel_rfl) (by kernel_rfl)
  have hmf : ∀ (fn : Fn) (first cap : Array Value) (w : World), (Instr.makeFunc fn first cap).run Try.prog w = .ok (.func fn first cap) w := fun _ _ _ _ => rfl
  have b0 := hS1.bcell 0 rfl 0 rfl
  have hcall := Lib.hid (forPairs_c 72 #[.pointer (some ⟨w.heap.size, 0, none⟩)] (fun x y => allB A.length fun z => ascP A x y z) a c us A _ (hS1.oldII hv) hcf (fun x y W' hW hx hy =>
    asc1_c w.heap.size x y a c us A W' ⟨(hS1.call0 hW).oldII hv, (hS1.call0 hW).bcell 0 rfl 0 rfl⟩ hA hx hy))
  rw [show (allB A.length fun x => allB A.length fun y => allB A.length fun z => ascP A x y z) = ascB A from rfl] at hcall
  clear hcf hA
  go_enter Try.func31, Try.ntmps31
  go_wp2_with fail
  refine hcall.out.mono ?_
  rintro e w2 ⟨rfl, h3⟩
  have hS2 := hS1.call0 h3
  go_wp2_with fail
  go_ret
  exact ⟨rfl, hS2.out⟩
end Go.Proofs.Ytdlmohigkkdegaa
end

section
/- Walks: binomial coefficients, subsets by rank, next subsets. -/
namespace Go.Proofs.Ytdlmohigkkdegaa
set_option linter.unusedSimpArgs false
set_option linter.unusedVariables false
open Go.RowKit
/-- the numbers 0, 1, .. -/
def idn (n : Nat) : List Int := (List.range n).map fun (j : Nat) => (j : Int)
theorem idn_len (n : Nat) : (idn n).length = n := by simp [idn]
set_option maxHeartbeats 1000000 in
set_option maxRecDepth 100000 in
theorem identity_c (n : Nat) (w : World) (hn : n ≤ 1048576) : Calls Try.prog 70 #[.int .i64 n] w (MakesI w (idn n)) := by
  go_enter Try.func70, Try.ntmps70
  go_wp2_with (at_make; refine mkI (St.refl w) rfl _ _ rfl _ _ n rfl rfl (by omega) ?_; intro v1 w1 hS1; have hr := hS1.rdI 0 rfl; have hln := hr.len; have hix := hr.ix; simp only [List.length_replicate] at hln hix; clear hr)
  go_loopw [4, 9] (fun _ i wr => ∃ k : Nat, k ≤ n ∧ i = .int .i64 k ∧ St w.heap.size w wr [row 2 v1 (iv (idn k ++ List.replicate (n - k) 0))]) (fun _ i _ => n - (intOf i).toNat)
  case atStart => exact ⟨0, by omega, rfl, hS1⟩
  case round =>
    obtain ⟨k, hk, rfl, hS⟩ := hrel
    by_cases hlt : k < n
    · go_wp2_with (refine stoI hS 0 rfl k (by simp [idn]; omega) rfl (.tmp 15) (.tmp 14) rfl rfl _ rfl ?_; intro w2 hS2)
      go_roundw
      case rel =>
        refine ⟨k + 1, by omega, by go_num, ?_⟩
        have e : (idn k ++ List.replicate (n - k) 0).set k (k : Int) = idn (k + 1) ++ List.replicate (n - (k + 1)) 0 := by
          rw [List.set_append_right _ _ (by rw [idn_len]; omega), idn_len, show n - k = (n - (k + 1)) + 1 by omega, List.replicate_succ]
          simp [idn, List.range_succ]
        rw [← e]; exact hS2
      case measure => simp [intOf]; omega
    · obtain rfl : k = n := by omega
      go_wp2_with fail
      go_ret
      refine ⟨_, rfl, ?_⟩
      simpa using hS


end Go.Proofs.Ytdlmohigkkdegaa
end

section
/- Walks: units; identities that a square satisfies. -/
namespace Go.Proofs.Ytdlmohigkkdegaa
set_option linter.unusedSimpArgs false
set_option linter.unusedVariables false
open Go.RowKit
attribute [local go_sem ↓] Go.wp_at_zero Go.wp_at_succ

/-! ### units -/
noncomputable def luI (A : List (List Int)) : Int := idxR (fun r => decide (r = idn A.length)) A 0
def ruB (A : List (List Int)) (e : Nat) : Bool := allB A.length fun x => decide (at2 A x e = x)
/-- the first number from k on of which it holds -/
def fstN (p : Nat → Bool) : Nat → Nat → Int
  | 0, _ => -1
  | f + 1, k => if p k then k else fstN p f (k + 1)
def ruI (A : List (List Int)) : Int := fstN (ruB A) A.length 0
set_option maxHeartbeats 4000000 in
set_option maxRecDepth 100000 in
theorem lu1_c (g : Nat) (vr : Value) (r : List Int) (a : Option Addr) (c : Nat) (us : List Value) (A : List (List Int)) (W : World) (hb : BxS W g a c us A) (hr : RdI W vr r) (hn : A.length ≤ 1000) :
    Calls Try.prog 87 #[vr, .pointer (some ⟨g, 0, none⟩)] W (GivesB W (decide (r = idn A.length))) := by
  have b0 := hb.bx
  have KZ := Lib.hid (szII_c _ us A W hb.rd)
  have KI := Lib.hid (identity_c A.length W (by omega))
  have KE := fun v2 W2 (h1 : RdI W2 vr r) (h2 : RdI W2 v2 (idn A.length)) => Lib.hid (Equal_c vr v2 _ _ W2 h1 h2)
  clear hb
  go_enter Try.func87, Try.ntmps87
  go_wp2_with (first
    | (go_at_call 33; refine KZ.out.mono ?_; rintro e wb ⟨rfl, hb⟩; subst hb)
    | (go_at_call 70; refine KI.out.mono ?_; rintro e w2 ⟨v2, rfl, h2⟩; have hi := h2.rdI 0 rfl)
    | (go_at_call 88; refine (KE _ _ (hr.keep h2.below) hi).out.mono ?_; rintro e w3 ⟨rfl, h3⟩))
  go_ret
  exact ⟨rfl, (h2.call0 h3).out⟩
set_option maxHeartbeats 4000000 in
set_option maxRecDepth 100000 in
theorem leftUnit_c (a : Option Addr) (c : Nat) (us : List Value) (A : List (List Int)) (w : World) (hv : RII w (.slice a A.length c) us A) (hn : A.length ≤ 1000) :
    Calls Try.prog 47 #[.slice a A.length c] w (GivesI w (luI A)) := by
  have hS1 := (St.refl w).newboxF 24 #[.slice a A.length c]
  have hcf := callFunc_go Try.func87 (by kernel_rfl) (by kernel_rfl)
  have hmf : ∀ (fn : Fn) (first cap : Array Value) (w : World), (Instr.makeFunc fn first cap).run Try.prog w = .ok (.func fn first cap) w := fun _ _ _ _ => rfl
  have b0 := hS1.bcell 0 rfl 0 rfl
  have hcall := Lib.hid (IndexFuncR_c 87 #[.pointer (some ⟨w.heap.size, 0, none⟩)] (fun r => decide (r = idn A.length)) (.slice a A.length c) us A _ (hS1.oldII hv) hcf (fun j W' hW hj =>
    lu1_c w.heap.size (vat us j) (xat A j) a c us A W' ⟨(hS1.call0 hW).oldII hv, (hS1.call0 hW).bcell 0 rfl 0 rfl⟩ (((hS1.call0 hW).oldII hv).row j hj) hn))
  rw [show idxR (fun r => decide (r = idn A.length)) A 0 = luI A from rfl] at hcall
  clear hcf
  go_enter Try.func47, Try.ntmps47
  go_wp2_with fail
  refine hcall.out.mono ?_
  rintro e w2 ⟨rfl, h3⟩
  have hS2 := hS1.call0 h3
  go_wp2_with fail
  go_ret
  exact ⟨rfl, hS2.out⟩
set_option maxHeartbeats 4000000 in
set_option maxRecDepth 100000 in
theorem ru1_c (g1 g2 : Nat) (x e : Nat) (a : Option Addr) (c : Nat) (us : List Value) (A : List (List Int)) (W : World) (hb : BxS W g1 a c us A) (hA : Sq0 A.length A)
    (h2 : W.cell? ⟨g2, 0, none⟩ = some (.int .i64 e)) (hx : x < A.length) (he : e < A.length) :
    Calls Try.prog 89 #[.int .i64 x, .pointer (some ⟨g1, 0, none⟩), .pointer (some ⟨g2, 0, none⟩)] W (GivesB W (decide (at2 A x e = x))) := by
  have s0 := fun q : SS W.heap.size W [] => (hb.keep q.st).bx
  have s2 := fun q : SS W.heap.size W [] => keepc h2 q.st
  have r1 := fun q : SS W.heap.size W [] => (hb.keep q.st).row hx
  have c1 := fun q : SS W.heap.size W [] => (hb.keep q.st).ent hA hx he
  have i1 := hb.ix hx
  have j1 := hb.ixr hA hx he
  generalize at2 A x e = p at *
  clear hb h2 hx he
  have hS := St.refl W
  go_enter Try.func89, Try.ntmps89
  go_wp2_with fail
  have hne : Nonempty (SS _ _ _) := ⟨⟨_, hS⟩⟩
  refine wp_region_st (by kernel_rfl) (by kernel_rfl) hS ?_
  repeat (go_big_quiet_step (fail))
  refine wpQuiet_nil ?_
  rintro _ ⟨s2, rfl⟩
  have hS2 := s2.st
  generalize s2.w = w2 at hS2 ⊢
  go_wp2_with fail
  go_ret
  exact ⟨ret_bool (by rw [beq_dec]), hS2⟩
set_option maxHeartbeats 8000000 in
set_option maxRecDepth 100000 in
theorem rightUnit_c (a : Option Addr) (c : Nat) (us : List Value) (A : List (List Int)) (w : World) (hv : RII w (.slice a A.length c) us A) (hA : Sq0 A.length A) (hn : A.length ≤ 1000) :
    Calls Try.prog 48 #[.slice a A.length c] w (GivesI w (ruI A)) := by
  have hS1 := (St.refl w).newboxF 24 #[.slice a A.length c]
  have hcf := callFunc_go Try.func89 (by kernel_rfl) (by kernel_rfl)
  have hmf : ∀ (fn : Fn) (first cap : Array Value) (w : World), (Instr.makeFunc fn first cap).run Try.prog w = .ok (.func fn first cap) w := fun _ _ _ _ => rfl
  have b0 := hS1.bcell 0 rfl 0 rfl
  have hln := hv.len
  have KF := fun (e : Nat) (he : e < A.length) (g : Nat) W (hb : BxS W w.heap.size a c us A) (hg : W.cell? ⟨g, 0, none⟩ = some (.int .i64 e)) => Lib.hid (forAll_c 89 #[.pointer (some ⟨w.heap.size, 0, none⟩), .pointer (some ⟨g, 0, none⟩)] (fun x => decide (at2 A x e = x)) (.slice a A.length c) us A W hb.rd hcf (fun x W' hW hx =>
    ru1_c w.heap.size g x e a c us A W' (hb.keep hW) hA (keepc hg hW) hx he))
  have HE := Lib.hid (show ruI A = fstN (ruB A) A.length 0 from rfl)
  clear hcf hA
  go_enter Try.func48, Try.ntmps48
  go_wp2_with fail
  go_loopw [6, 3] (fun i _ wr => ∃ k : Nat, k ≤ A.length ∧ i = .int .i64 k ∧ Hid (ruI A = fstN (ruB A) (A.length - k) k) ∧ St w.heap.size w wr [box 24 w.heap.size [.slice a A.length c]]) (fun i _ _ => A.length - (intOf i).toNat)
  case atStart => exact ⟨0, by omega, rfl, HE.out, hS1⟩
  case round =>
    clear hS1 b0
    obtain ⟨k, hk, rfl, hI, hS⟩ := hrel
    by_cases hlt : k < A.length
    · have hki : (k : Int) < (A.length : Int) := by omega
      have hS2 := hS.newboxF 3 #[.int .i64 k]
      have b1 := hS2.bcell 0 rfl 0 rfl
      have b0 := hS2.bcell 1 rfl 0 rfl
      have f1 := hS2.bfree 0 rfl
      have HF : Hid (ruI A = if ruB A k then (k : Int) else fstN (ruB A) (A.length - (k + 1)) (k + 1)) := Lib.hid (by
        rw [hI.out]
        obtain ⟨f, hf⟩ : ∃ f, A.length - k = f + 1 := ⟨A.length - k - 1, by omega⟩
        rw [hf, fstN, show A.length - (k + 1) = f by omega])
      have KK := KF k hlt wr.heap.size _ ⟨hS2.oldII hv, b0⟩ b1
      rw [show (allB A.length fun x => decide (at2 A x k = x)) = ruB A k from rfl] at KK
      clear hS KF
      cases hr : ruB A k
      · have HF2 : Hid (ruI A = fstN (ruB A) (A.length - (k + 1)) (k + 1)) := Lib.hid (by rw [HF.out, hr]; rfl)
        rw [hr] at KK
        clear HF hr
        go_wp2_with fail
        refine KK.out.mono ?_
        rintro e w2 ⟨rfl, h3⟩
        have hS3 := (hS2.call0 h3).sub (L' := [box 24 w.heap.size [.slice a A.length c]]) (List.sublist_cons_self _ _)
        go_wp2_with fail
        go_roundw
        case rel => exact ⟨k + 1, by omega, by go_num, HF2.out, hS3⟩
        case measure => simp [intOf]; omega
      · have HF2 : Hid (ruI A = (k : Int)) := Lib.hid (by rw [HF.out, hr]; rfl)
        rw [hr] at KK
        clear HF hr
        go_wp2_with fail
        refine KK.out.mono ?_
        rintro e w2 ⟨rfl, h3⟩
        have hS3 := hS2.call0 h3
        have b1 := hS3.bcell 0 rfl 0 rfl
        go_wp2_with fail
        go_ret
        exact ⟨ret_i64 HF2.out.symm, hS3.out⟩
    · obtain rfl : k = A.length := by omega
      have HF2 : Hid (ruI A = -1) := Lib.hid (by rw [hI.out, Nat.sub_self]; rfl)
      go_wp2_with fail
      go_ret
      exact ⟨ret_i64 HF2.out.symm, hS.out⟩
end Go.Proofs.Ytdlmohigkkdegaa
end

section
/- Posts: a row and a code; a list of rows and a code. -/
namespace Go.Proofs.Ytdlmohigkkdegaa
set_option linter.unusedSimpArgs false
set_option linter.unusedVariables false
/-- a row of its own, and a code -/
def MakesC1 (w : World) (xs : List Int) (c : Int) (e : Ending) (w' : World) : Prop := ∃ v, e = .returned (.tuple #[v, .int .i64 c]) ∧ St w.heap.size w w' [row 2 v (iv xs)]
end Go.Proofs.Ytdlmohigkkdegaa
end

section
/- Walks: the identities that a square satisfies. -/
namespace Go.Proofs.Ytdlmohigkkdegaa
set_option linter.unusedSimpArgs false
set_option linter.unusedVariables false
open Go.RowKit
attribute [local go_sem ↓] Go.wp_at_zero Go.wp_at_succ

section
variable {g x y : Nat} {a : Option Addr} {c : Nat} {us : List Value} {A : List (List Int)} {W : World}
set_option maxHeartbeats 4000000 in
set_option maxRecDepth 100000 in
theorem sat1_c (hb : BxS W g a c us A) (hA : Sq0 A.length A) (hx : x < A.length) : Calls Try.prog 82 #[.int .i64 x, .pointer (some ⟨g, 0, none⟩)] W (GivesB W (decide (at2 A x x = x))) := by
  have s0 := hb.bx
  have r1 := hb.row hx
  have c1 := hb.ent hA hx hx
  have i1 := hb.ix hx
  have j1 := hb.ixr hA hx hx
  generalize at2 A x x = p at *
  clear hb hx
  go_enter Try.func82, Try.ntmps82
  go_wp2_with fail
  go_ret
  exact ⟨ret_bool (by rw [beq_dec]), St.refl W⟩
set_option maxHeartbeats 4000000 in
set_option maxRecDepth 100000 in
theorem sat2_c (hb : BxS W g a c us A) (hA : Sq0 A.length A) (hx : x < A.length) : Calls Try.prog 83 #[.int .i64 x, .pointer (some ⟨g, 0, none⟩)] W (GivesB W (decide (at2 A x x = at2 A 0 0))) := by
  have h0 : 0 < A.length := by omega
  have s0 := fun q : SS W.heap.size W [] => (hb.keep q.st).bx
  have r1 := fun q : SS W.heap.size W [] => (hb.keep q.st).row hx
  have r2 := fun q : SS W.heap.size W [] => (hb.keep q.st).row h0
  have c1 := fun q : SS W.heap.size W [] => (hb.keep q.st).ent hA hx hx
  have c2 := fun q : SS W.heap.size W [] => (hb.keep q.st).ent hA h0 h0
  have i1 := hb.ix hx
  have j1 := hb.ixr hA hx hx
  have i2 := hb.ix h0
  have j2 := hb.ixr hA h0 h0
  rw [show ((0 : Nat) : Int) = 0 from rfl] at i2 j2
  generalize at2 A x x = p at *
  generalize at2 A 0 0 = q at *
  clear hb hx h0
  have hS := St.refl W
  go_enter Try.func83, Try.ntmps83
  go_wp2_with fail
  have hne : Nonempty (SS _ _ _) := ⟨⟨_, hS⟩⟩
  refine wp_region_st (by kernel_rfl) (by kernel_rfl) hS ?_
  repeat (go_big_quiet_step (fail))
  refine wpQuiet_nil ?_
  rintro _ ⟨s2, rfl⟩
  have hS2 := s2.st
  generalize s2.w = w2 at hS2 ⊢
  go_wp2_with fail
  go_ret
  exact ⟨ret_bool (by rw [beq_dec]), hS2⟩
set_option maxHeartbeats 4000000 in
set_option maxRecDepth 100000 in
theorem sat3_c (hb : BxS W g a c us A) (hA : Sq0 A.length A) (hx : x < A.length) (hy : y < A.length) : Calls Try.prog 84 #[.int .i64 x, .int .i64 y, .pointer (some ⟨g, 0, none⟩)] W (GivesB W (decide (at2 A x y = at2 A y x))) := by
  have s0 := fun q : SS W.heap.size W [] => (hb.keep q.st).bx
  have r1 := fun q : SS W.heap.size W [] => (hb.keep q.st).row hx
  have r2 := fun q : SS W.heap.size W [] => (hb.keep q.st).row hy
  have c1 := fun q : SS W.heap.size W [] => (hb.keep q.st).ent hA hx hy
  have c2 := fun q : SS W.heap.size W [] => (hb.keep q.st).ent hA hy hx
  have i1 := hb.ix hx
  have j1 := hb.ixr hA hx hy
  have i2 := hb.ix hy
  have j2 := hb.ixr hA hy hx
  generalize at2 A x y = p at *
  generalize at2 A y x = q at *
  clear hb hx hy
  have hS := St.refl W
  go_enter Try.func84, Try.ntmps84
  go_wp2_with fail
  have hne : Nonempty (SS _ _ _) := ⟨⟨_, hS⟩⟩
  refine wp_region_st (by kernel_rfl) (by kernel_rfl) hS ?_
  repeat (go_big_quiet_step (fail))
  refine wpQuiet_nil ?_
  rintro _ ⟨s2, rfl⟩
  have hS2 := s2.st
  generalize s2.w = w2 at hS2 ⊢
  go_wp2_with fail
  go_ret
  exact ⟨ret_bool (by rw [beq_dec]), hS2⟩
set_option maxHeartbeats 4000000 in
set_option maxRecDepth 100000 in
theorem sat4_c (hb : BxS W g a c us A) (hA : Sq0 A.length A) (hx : x < A.length) (hy : y < A.length) : Calls Try.prog 85 #[.int .i64 x, .int .i64 y, .pointer (some ⟨g, 0, none⟩)] W (GivesB W (decide (at2 A x (af A y x) = y))) := by
  obtain ⟨e1, m1⟩ := ent hA hy hx
  have s0 := fun q : SS W.heap.size W [] => (hb.keep q.st).bx
  have r1 := fun q : SS W.heap.size W [] => (hb.keep q.st).row hx
  have r2 := fun q : SS W.heap.size W [] => (hb.keep q.st).row hy
  have c1 := fun q : SS W.heap.size W [] => (hb.keep q.st).ent hA hy hx
  have c2 := fun q : SS W.heap.size W [] => (hb.keep q.st).ent hA hx m1
  have i1 := hb.ix hx
  have j1 := hb.ixr hA hx m1
  have i2 := hb.ix hy
  have j2 := hb.ixr hA hy hx
  rw [e1] at c1
  generalize af A y x = m at *
  generalize at2 A x m = q at *
  clear hb hx hy e1 m1
  have hS := St.refl W
  go_enter Try.func85, Try.ntmps85
  go_wp2_with fail
  have hne : Nonempty (SS _ _ _) := ⟨⟨_, hS⟩⟩
  refine wp_region_st (by kernel_rfl) (by kernel_rfl) hS ?_
  repeat (go_big_quiet_step (fail))
  refine wpQuiet_nil ?_
  rintro _ ⟨s2, rfl⟩
  have hS2 := s2.st
  generalize s2.w = w2 at hS2 ⊢
  go_wp2_with fail
  go_ret
  exact ⟨ret_bool (by rw [beq_dec]), hS2⟩
end
/-- whether the square satisfies the identity of a kind -/
noncomputable def satB (A : List (List Int)) (k : Nat) : Bool :=
  if k = 1 then allB A.length fun x => decide (at2 A x x = x)
  else if k = 2 then allB A.length fun x => decide (at2 A x x = at2 A 0 0)
  else if k = 3 then allB A.length fun x => allB A.length fun y => decide (at2 A x y = at2 A y x)
  else if k = 4 then decide (0 ≤ luI A)
  else if k = 5 then decide (0 ≤ ruI A)
  else if k = 6 then ascB A
  else allB A.length fun x => allB A.length fun y => decide (at2 A x (af A y x) = y)
set_option maxHeartbeats 8000000 in
set_option maxRecDepth 100000 in
theorem satisfies_c (a : Option Addr) (c : Nat) (us : List Value) (A : List (List Int)) (k : Nat) (w : World) (hv : RII w (.slice a A.length c) us A) (hA : Sq0 A.length A) (hn : A.length ≤ 1000) (h1 : 1 ≤ k) (h7 : k ≤ 7) :
    Calls Try.prog 46 #[.slice a A.length c, .int .i64 k] w (GivesB w (satB A k)) := by
  have hS1 := (St.refl w).newboxF 24 #[.slice a A.length c]
  have b0 := hS1.bcell 0 rfl 0 rfl
  have hb : ∀ {W : World}, St (w.alloc (.cells #[.slice a A.length c] 24)).heap.size (w.alloc (.cells #[.slice a A.length c] 24)) W [] → BxS W w.heap.size a c us A := fun h => ⟨(hS1.call0 h).oldII hv, (hS1.call0 h).bcell 0 rfl 0 rfl⟩
  have hmf : ∀ (fn : Fn) (first cap : Array Value) (w : World), (Instr.makeFunc fn first cap).run Try.prog w = .ok (.func fn first cap) w := fun _ _ _ _ => rfl
  have cf1 := callFunc_go Try.func82 (by kernel_rfl) (by kernel_rfl)
  have cf2 := callFunc_go Try.func83 (by kernel_rfl) (by kernel_rfl)
  have cf3 := callFunc_go Try.func84 (by kernel_rfl) (by kernel_rfl)
  have cf4 := callFunc_go Try.func85 (by kernel_rfl) (by kernel_rfl)
  have K1 := Lib.hid (forAll_c 82 #[.pointer (some ⟨w.heap.size, 0, none⟩)] (fun x => decide (at2 A x x = x)) (.slice a A.length c) us A _ (hS1.oldII hv) cf1 (fun x W' hW hx => sat1_c (hb hW) hA hx))
  have K2 := Lib.hid (forAll_c 83 #[.pointer (some ⟨w.heap.size, 0, none⟩)] (fun x => decide (at2 A x x = at2 A 0 0)) (.slice a A.length c) us A _ (hS1.oldII hv) cf2 (fun x W' hW hx => sat2_c (hb hW) hA hx))
  have K3 := Lib.hid (forPairs_c 84 #[.pointer (some ⟨w.heap.size, 0, none⟩)] (fun x y => decide (at2 A x y = at2 A y x)) a c us A _ (hS1.oldII hv) cf3 (fun x y W' hW hx hy => sat3_c (hb hW) hA hx hy))
  have K7 := Lib.hid (forPairs_c 85 #[.pointer (some ⟨w.heap.size, 0, none⟩)] (fun x y => decide (at2 A x (af A y x) = y)) a c us A _ (hS1.oldII hv) cf4 (fun x y W' hW hx hy => sat4_c (hb hW) hA hx hy))
  have K4 := Lib.hid (leftUnit_c a c us A _ (hS1.oldII hv) hn)
  have K5 := Lib.hid (rightUnit_c a c us A _ (hS1.oldII hv) hA hn)
  have K6 := Lib.hid (associative_c a c us A _ (hS1.oldII hv) hA)
  clear cf1 cf2 cf3 cf4 hA hb
  have hk : k = 1 ∨ k = 2 ∨ k = 3 ∨ k = 4 ∨ k = 5 ∨ k = 6 ∨ k = 7 := by omega
  clear h1 h7
  have HD := Lib.hid (show ∀ z : Int, (decide (z ≥ 0)) = decide (0 ≤ z) from fun _ => rfl)
  rcases hk with rfl | rfl | rfl | rfl | rfl | rfl | rfl
  · rw [show satB A 1 = allB A.length fun x => decide (at2 A x x = x) from rfl]
    go_enter Try.func46, Try.ntmps46
    go_wp2_with fail
    refine K1.out.mono ?_
    rintro e w2 ⟨rfl, h3⟩
    have hS2 := hS1.call0 h3
    go_wp2_with fail
    go_ret
    exact ⟨rfl, hS2.out⟩
  · rw [show satB A 2 = allB A.length fun x => decide (at2 A x x = at2 A 0 0) from rfl]
    go_enter Try.func46, Try.ntmps46
    go_wp2_with fail
    refine K2.out.mono ?_
    rintro e w2 ⟨rfl, h3⟩
    have hS2 := hS1.call0 h3
    go_wp2_with fail
    go_ret
    exact ⟨rfl, hS2.out⟩
  · rw [show satB A 3 = allB A.length fun x => allB A.length fun y => decide (at2 A x y = at2 A y x) from rfl]
    go_enter Try.func46, Try.ntmps46
    go_wp2_with fail
    refine K3.out.mono ?_
    rintro e w2 ⟨rfl, h3⟩
    have hS2 := hS1.call0 h3
    go_wp2_with fail
    go_ret
    exact ⟨rfl, hS2.out⟩
  · rw [show satB A 4 = decide (0 ≤ luI A) from rfl]
    generalize luI A = z at *
    go_enter Try.func46, Try.ntmps46
    go_wp2_with fail
    refine K4.out.mono ?_
    rintro e w2 ⟨rfl, h3⟩
    have hS2 := hS1.call0 h3
    go_wp2_with fail
    go_ret
    exact ⟨by first | rfl | exact ret_bool (by simp), hS2.out⟩
  · rw [show satB A 5 = decide (0 ≤ ruI A) from rfl]
    generalize ruI A = z at *
    go_enter Try.func46, Try.ntmps46
    go_wp2_with fail
    refine K5.out.mono ?_
    rintro e w2 ⟨rfl, h3⟩
    have hS2 := hS1.call0 h3
    go_wp2_with fail
    go_ret
    exact ⟨by first | rfl | exact ret_bool (by simp), hS2.out⟩
  · rw [show satB A 6 = ascB A from rfl]
    go_enter Try.func46, Try.ntmps46
    go_wp2_with fail
    refine K6.out.mono ?_
    rintro e w2 ⟨rfl, h3⟩
    have hS2 := hS1.call0 h3
    go_wp2_with fail
    go_ret
    exact ⟨rfl, hS2.out⟩
  · rw [show satB A 7 = allB A.length fun x => allB A.length fun y => decide (at2 A x (af A y x) = y) from rfl]
    go_enter Try.func46, Try.ntmps46
    go_wp2_with fail
    refine K7.out.mono ?_
    rintro e w2 ⟨rfl, h3⟩
    have hS2 := hS1.call0 h3
    go_wp2_with fail
    go_ret
    exact ⟨rfl, hS2.out⟩
/-- with the last kind -/
noncomputable def satB8 (A : List (List Int)) (k : Nat) : Bool := if k = 8 then satB A 3 && satB A 7 else satB A k
set_option maxHeartbeats 8000000 in
set_option maxRecDepth 100000 in
theorem satisfies8_c (a : Option Addr) (c : Nat) (us : List Value) (A : List (List Int)) (w : World) (hv : RII w (.slice a A.length c) us A) (hA : Sq0 A.length A) (hn : A.length ≤ 1000) :
    Calls Try.prog 46 #[.slice a A.length c, .int .i64 8] w (GivesB w (satB A 3 && satB A 7)) := by
  have hS1 := (St.refl w).newboxF 24 #[.slice a A.length c]
  have b0 := hS1.bcell 0 rfl 0 rfl
  have K3 := fun W (h : RII W (.slice a A.length c) us A) => Lib.hid (satisfies_c a c us A 3 W h hA hn (by omega) (by omega))
  have K7 := fun W (h : RII W (.slice a A.length c) us A) => Lib.hid (satisfies_c a c us A 7 W h hA hn (by omega) (by omega))
  rw [show ((3 : Nat) : Int) = 3 from rfl] at K3
  rw [show ((7 : Nat) : Int) = 7 from rfl] at K7
  generalize satB A 3 = p at *
  generalize satB A 7 = q at *
  clear hA
  cases p
  · go_enter Try.func46, Try.ntmps46
    go_wp2_with (go_at_call_of 46 (Value.int IntKind.i64 3); refine (K3 _ (hS1.oldII hv)).out.mono ?_; rintro e w2 ⟨rfl, h2⟩; have hS2 := hS1.call0 h2; have b0 := hS2.bcell 0 rfl 0 rfl)
    go_ret
    exact ⟨rfl, hS2.out⟩
  · go_enter Try.func46, Try.ntmps46
    go_wp2_with (first
      | (go_at_call_of 46 (Value.int IntKind.i64 3); refine (K3 _ (hS1.oldII hv)).out.mono ?_; rintro e w2 ⟨rfl, h2⟩; have hS2 := hS1.call0 h2; have b0 := hS2.bcell 0 rfl 0 rfl)
      | (go_at_call_of 46 (Value.int IntKind.i64 7); refine (K7 _ (hS2.oldII hv)).out.mono ?_; rintro e w3 ⟨rfl, h3⟩; have hS3 := hS2.call0 h3))
    go_ret
    exact ⟨rfl, hS3.out⟩
theorem satAll_c (a : Option Addr) (c : Nat) (us : List Value) (A : List (List Int)) (k : Nat) (w : World) (hv : RII w (.slice a A.length c) us A) (hA : Sq0 A.length A) (hn : A.length ≤ 1000) (h1 : 1 ≤ k) (h8 : k ≤ 8) :
    Calls Try.prog 46 #[.slice a A.length c, .int .i64 k] w (GivesB w (satB8 A k)) := by
  by_cases e : k = 8
  · subst e; exact satisfies8_c a c us A w hv hA hn
  · rw [satB8, if_neg e]; exact satisfies_c a c us A k w hv hA hn h1 (by omega)
/-- the kinds that hold -/
noncomputable def kdL (A : List (List Int)) (m : Nat) : List Int := (List.range m).flatMap fun k => if satB8 A (k + 1) then [((k + 1 : Nat) : Int)] else []
theorem kdL_yes {A : List (List Int)} {m : Nat} (h : satB8 A (m + 1) = true) : kdL A (m + 1) = kdL A m ++ [((m + 1 : Nat) : Int)] := by simp [kdL, List.range_succ, h]
theorem kdL_no {A : List (List Int)} {m : Nat} (h : satB8 A (m + 1) = false) : kdL A (m + 1) = kdL A m := by simp [kdL, List.range_succ, h]
theorem mem_kdL {A : List (List Int)} {m : Nat} {x : Int} : x ∈ kdL A m ↔ ∃ k, k < m ∧ satB8 A (k + 1) = true ∧ x = ((k + 1 : Nat) : Int) := by
  unfold kdL
  simp only [List.mem_flatMap, List.mem_range]
  constructor
  · rintro ⟨k, hk, h⟩
    split at h
    · rename_i e; exact ⟨k, hk, e, by simpa using h⟩
    · cases h
  · rintro ⟨k, hk, e, rfl⟩; exact ⟨k, hk, by rw [if_pos e]; simp⟩
theorem kdL_len (A : List (List Int)) : ∀ m, (kdL A m).length ≤ m
  | 0 => by simp [kdL]
  | m + 1 => by
    have := kdL_len A m
    cases h : satB8 A (m + 1)
    · rw [kdL_no h]; omega
    · rw [kdL_yes h, List.length_append]; simp; omega
set_option maxHeartbeats 8000000 in
set_option maxRecDepth 100000 in
theorem IdentitiesOf_c (a : Option Addr) (c : Nat) (us : List Value) (A : List (List Int)) (w : World) (hv : RII w (.slice a A.length c) us A) (hA : Lat A) :
    Calls Try.prog 13 #[.slice a A.length c] w (MakesC1 w (kdL A 8) 0) := by
  have KV := fun W (h : RII W (.slice a A.length c) us A) => Lib.hid (ValidSquare_c _ us A W h (fun x hx => by have := hA.len x hx; have := hA.le; omega))
  rw [latB_yes hA] at KV
  have KS := fun k (h1 : 1 ≤ k) (h8 : k ≤ 8) W (h : RII W (.slice a A.length c) us A) => Lib.hid (satAll_c a c us A k W h hA.sq0 (by have := hA.le; omega) h1 h8)
  have hS0 := St.refl w
  clear hA
  go_enter Try.func13, Try.ntmps13
  go_wp2_with (go_at_call 32; refine (KV _ hv).out.mono ?_; rintro e wa ⟨rfl, ha⟩; have hSa := hS0.call0 ha)
  have hS1 : St w.heap.size w wa [row 2 (.slice none 0 0) (iv (kdL A 0))] := hSa.newnil 2
  clear hSa ha hS0
  go_loopw [4, 5] (fun o i wr => ∃ (m : Nat) (v2 : Value), v2 = o ∧ m ≤ 8 ∧ i = .int .i64 ((m + 1 : Nat) : Int) ∧ St w.heap.size w wr [row 2 v2 (iv (kdL A m))]) (fun _ i _ => 10 - (intOf i).toNat)
  case atStart => exact ⟨0, _, rfl, by omega, rfl, hS1⟩
  case round =>
    clear hS1
    obtain ⟨m, v2, rfl, hm, rfl, hS⟩ := hrel
    by_cases hlt : m < 8
    · have hmi : ((m + 1 : Nat) : Int) ≤ 8 := by omega
      have KK := KS (m + 1) (by omega) (by omega) _ (hS.oldII hv)
      have hN := Lib.hid (show (kdL A m).length < 4294967296 by have := kdL_len A m; omega)
      have wq : IntKind.i64.wrap (((m + 1 : Nat) : Int) + 1) = ((m + 1 + 1 : Nat) : Int) := by rw [IntWalk.i64_in _ (by omega)]; rfl
      obtain ⟨q, hq⟩ : ∃ q : Nat, q = m + 1 := ⟨_, rfl⟩
      have Hq := Lib.hid hq
      rw [← hq] at KK hmi wq ⊢
      cases hb : satB8 A q
      · have HT := Lib.hid (kdL_no (A := A) (m := m) (by rw [← hq]; exact hb))
        rw [hb] at KK
        clear hb hq
        go_wp2_with (go_at_call 46; refine KK.out.mono ?_; rintro e2 w2 ⟨rfl, h2⟩; have hS2 := hS.call0 h2)
        go_roundw
        case rel => exact ⟨m + 1, _, rfl, by omega, by rw [← Hq.out]; go_num, by rw [HT.out]; exact hS2⟩
        case measure => simp [intOf]; omega
      · have HT := Lib.hid (kdL_yes (A := A) (m := m) (by rw [← hq]; exact hb))
        rw [← hq] at HT
        rw [hb] at KK
        clear hb hq
        go_wp2_with (first
          | (at_builtin; have hz := hS2; clear hz; refine appI hS2 0 rfl hN.out rfl _ _ rfl rfl _ rfl ?_; intro v5 w5 hS5; simp only [List.set_cons_zero] at hS5)
          | (go_at_call 46; refine KK.out.mono ?_; rintro e2 w2 ⟨rfl, h2⟩; have hS2 := hS.call0 h2))
        rw [Hq.out] at HT
        go_roundw
        case rel => exact ⟨m + 1, _, rfl, by omega, by rw [← Hq.out]; go_num, by rw [HT.out]; exact (by rw [← Hq.out]; exact hS5)⟩
        case measure => simp [intOf]; omega
    · obtain rfl : m = 8 := by omega
      go_wp2_with fail
      go_ret2
      exact ⟨_, rfl, hS⟩
end Go.Proofs.Ytdlmohigkkdegaa
end
