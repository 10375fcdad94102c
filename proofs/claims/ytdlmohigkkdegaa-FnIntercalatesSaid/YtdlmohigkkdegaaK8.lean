/- The texts of this claim, run 8: PCon PPar PItc It1 Arr2 Same It4. -/
import Derived.Test.YtdlmohigkkdegaaK2
import Derived.Test.YtdlmohigkkdegaaK3
import Derived.Test.YtdlmohigkkdegaaK4
import Derived.Test.YtdlmohigkkdegaaK5
import Derived.Test.YtdlmohigkkdegaaK7

section
/- Isotopes and conjugates of Latin squares, in plain terms. Conjugates of Latin squares as lists of lists. In plain terms. -/
namespace Go.Proofs.Ytdlmohigkkdegaa
set_option linter.unusedSimpArgs false
set_option linter.unusedVariables false

structure Latin (n : Nat) (a : Nat → Nat → Nat) : Prop where
  row : ∀ x, x < n → Bij n (a x)
  col : ∀ y, y < n → Bij n fun x => a x y
def IsoOf (n : Nat) (a : Nat → Nat → Nat) (r c s : Nat → Nat) (b : Nat → Nat → Nat) : Prop := ∀ x y, x < n → y < n → b (r x) (c y) = s (a x y)
section
variable {n : Nat} {a b d : Nat → Nat → Nat} {r c s q : Nat → Nat}
theorem IsoOf.uniq (hr : Bij n r) (hc : Bij n c) (h1 : IsoOf n a r c s b) (h2 : IsoOf n a r c s d) {x y : Nat} (hx : x < n) (hy : y < n) : b x y = d x y := by
  obtain ⟨x', hx', rfl⟩ := hr.onto hx
  obtain ⟨y', hy', rfl⟩ := hc.onto hy
  rw [h1 x' y' hx' hy', h2 x' y' hx' hy']
theorem IsoOf.comp {r' c' s' : Nat → Nat} (hr : Bij n r) (hc : Bij n c) (h1 : IsoOf n a r c s b) (h2 : IsoOf n b r' c' s' d) : IsoOf n a (fun x => r' (r x)) (fun x => c' (c x)) (fun x => s' (s x)) d := fun x y hx hy => by
  show d (r' (r x)) (c' (c y)) = s' (s (a x y))
  rw [h2 _ _ (hr.lt x hx) (hc.lt y hy), h1 x y hx hy]
theorem IsoOf.back {ri ci si : Nat → Nat} (hl : Latin n a) (hr : Bij n r) (hc : Bij n c) (h1 : IsoOf n a r c s b) (h2 : IsoOf n b ri ci si d) (er : ∀ x, x < n → ri (r x) = x) (ec : ∀ x, x < n → ci (c x) = x) (es : ∀ x, x < n → si (s x) = x)
    {x y : Nat} (hx : x < n) (hy : y < n) : d x y = a x y := by
  have := h2 _ _ (hr.lt x hx) (hc.lt y hy)
  rw [er x hx, ec y hy, h1 x y hx hy, es _ ((hl.row x hx).lt y hy)] at this
  exact this
theorem IsoOf.latin (hl : Latin n a) (hr : Bij n r) (hc : Bij n c) (hs : Bij n s) (h : IsoOf n a r c s b) : Latin n b where
  row x hx := by
    obtain ⟨x', hx', rfl⟩ := hr.onto hx
    refine ⟨fun y hy => ?_, fun y z hy hz e => ?_⟩
    · obtain ⟨y', hy', rfl⟩ := hc.onto hy
      rw [h x' y' hx' hy']; exact hs.lt _ ((hl.row x' hx').lt y' hy')
    · obtain ⟨y', hy', rfl⟩ := hc.onto hy
      obtain ⟨z', hz', rfl⟩ := hc.onto hz
      rw [h x' y' hx' hy', h x' z' hx' hz'] at e
      rw [(hl.row x' hx').inj y' z' hy' hz' (hs.inj _ _ ((hl.row x' hx').lt y' hy') ((hl.row x' hx').lt z' hz') e)]
  col y hy := by
    obtain ⟨y', hy', rfl⟩ := hc.onto hy
    refine ⟨fun x hx => ?_, fun x z hx hz e => ?_⟩
    · obtain ⟨x', hx', rfl⟩ := hr.onto hx
      rw [h x' y' hx' hy']; exact hs.lt _ ((hl.row x' hx').lt y' hy')
    · obtain ⟨x', hx', rfl⟩ := hr.onto hx
      obtain ⟨z', hz', rfl⟩ := hr.onto hz
      rw [h x' y' hx' hy', h z' y' hz' hy'] at e
      rw [(hl.col y' hy').inj x' z' hx' hz' (hs.inj _ _ ((hl.row x' hx').lt y' hy') ((hl.row z' hz').lt y' hy') e)]
/-- the triple of a place -/
def tri (x y s : Nat) : Nat → Nat := fun i => if i = 0 then x else if i = 1 then y else s
def ConjOf (n : Nat) (a : Nat → Nat → Nat) (p : Nat → Nat) (b : Nat → Nat → Nat) : Prop := ∀ x y, x < n → y < n → b (tri x y (a x y) (p 0)) (tri x y (a x y) (p 1)) = tri x y (a x y) (p 2)
theorem tri_lt {x y s : Nat} (hx : x < n) (hy : y < n) (hs : s < n) (i : Nat) : tri x y s i < n := by
  unfold tri; split
  · exact hx
  · split
    · exact hy
    · exact hs
theorem ConjOf.comp {p q : Nat → Nat} (hl : Latin n a) (hq : Bij 3 q) (h1 : ConjOf n a p b) (h2 : ConjOf n b q d) : ConjOf n a (fun i => p (q i)) d := fun x y hx hy => by
  have hs := (hl.row x hx).lt y hy
  have h := h2 _ _ (tri_lt hx hy hs (p 0)) (tri_lt hx hy hs (p 1))
  rw [h1 x y hx hy] at h
  have e : ∀ i, i < 3 → tri (tri x y (a x y) (p 0)) (tri x y (a x y) (p 1)) (tri x y (a x y) (p 2)) i = tri x y (a x y) (p i) := fun i hi => by
    rcases i with _ | _ | _ | i
    · rfl
    · rfl
    · rfl
    · omega
  rw [e _ (hq.lt 0 (by omega)), e _ (hq.lt 1 (by omega)), e _ (hq.lt 2 (by omega))] at h
  exact h
end

section
variable {n : Nat} {a : Nat → Nat → Nat}
/-- two of the three numbers of a place tell it -/
theorem tri_inj (hl : Latin n a) {i j : Nat} (hi : i < 3) (hj : j < 3) (hij : i ≠ j) {x y x' y' : Nat} (hx : x < n) (hy : y < n) (hx' : x' < n) (hy' : y' < n)
    (e1 : tri x y (a x y) i = tri x' y' (a x' y') i) (e2 : tri x y (a x y) j = tri x' y' (a x' y') j) : x = x' ∧ y = y' := by
  have r : ∀ y y', y < n → y' < n → x = x' → a x y = a x' y' → y = y' := fun y y' hy hy' e h => by subst e; exact (hl.row x hx).inj y y' hy hy' h
  have c : y = y' → a x y = a x' y' → x = x' := fun e h => by subst e; exact (hl.col y hy).inj x x' hx hx' h
  rcases i with _ | _ | _ | i <;> rcases j with _ | _ | _ | j <;> simp [tri] at e1 e2 hij <;> first | omega | skip
  all_goals first
    | exact ⟨e1, r y y' hy hy' e1 e2⟩
    | exact ⟨c e1 e2, e1⟩
    | exact ⟨e2, r y y' hy hy' e2 e1⟩
    | exact ⟨c e2 e1, e2⟩
theorem tri_onto (hl : Latin n a) {i j : Nat} (hi : i < 3) (hj : j < 3) (hij : i ≠ j) {u v : Nat} (hu : u < n) (hv : v < n) :
    ∃ x y, x < n ∧ y < n ∧ tri x y (a x y) i = u ∧ tri x y (a x y) j = v := by
  rcases i with _ | _ | _ | i <;> rcases j with _ | _ | _ | j <;> first | omega | skip
  · exact ⟨u, v, hu, hv, rfl, rfl⟩
  · obtain ⟨y, hy, e⟩ := (hl.row u hu).onto hv
    exact ⟨u, y, hu, hy, rfl, e⟩
  · exact ⟨v, u, hv, hu, rfl, rfl⟩
  · obtain ⟨x, hx, e⟩ := (hl.col u hu).onto hv
    exact ⟨x, u, hx, hu, rfl, e⟩
  · obtain ⟨y, hy, e⟩ := (hl.row v hv).onto hu
    exact ⟨v, y, hv, hy, e, rfl⟩
  · obtain ⟨x, hx, e⟩ := (hl.col v hv).onto hu
    exact ⟨x, v, hx, hv, e, rfl⟩
end
def af (A : List (List Int)) (x y : Nat) : Nat := (at2 A x y).toNat
theorem Lat.latin {A : List (List Int)} (h : Lat A) : Latin A.length (af A) where
  row x hx := by
    have := (h.row x hx).bij
    rw [h.len x hx] at this
    exact this
  col y hy := by
    have := (h.col y hy).bij
    rw [colL_len] at this
    refine ⟨fun x hx => ?_, fun x z hx hz e => this.inj x z hx hz ?_⟩
    · have h2 := this.lt x hx
      unfold pf at h2; rw [nth_colL hx] at h2; exact h2
    · unfold pf; rw [nth_colL hx, nth_colL hz]; exact e
/-- number i of the place of a square -/
def trA (A : List (List Int)) (x y i : Nat) : Nat := tri x y (af A x y) i
structure ConR (A : List (List Int)) (p : List Int) (B : List (List Int)) : Prop where
  sqr : Sqr A.length B
  at' : ∀ x y, x < A.length → y < A.length → at2 B (trA A x y (pf p 0)) (trA A x y (pf p 1)) = trA A x y (pf p 2)
structure ConP (A : List (List Int)) (p : List Int) (x y : Nat) (B : List (List Int)) : Prop where
  sqr : Sqr A.length B
  at' : ∀ x' y', x' < A.length → y' < A.length → (x' < x ∨ x' = x ∧ y' < y) → at2 B (trA A x' y' (pf p 0)) (trA A x' y' (pf p 1)) = trA A x' y' (pf p 2)
section
variable {A B C D : List (List Int)} {p q : List Int}
theorem trA_lt (h : Lat A) {x y : Nat} (hx : x < A.length) (hy : y < A.length) (i : Nat) : trA A x y i < A.length := tri_lt hx hy ((h.latin.row x hx).lt y hy) i
theorem p3_lt (hp : IsP p) (h3 : p.length = 3) {i : Nat} (hi : i < 3) : pf p i < 3 := by have := hp.pf_lt (j := i) (by omega); omega
theorem p3_ne (hp : IsP p) (h3 : p.length = 3) {i j : Nat} (hi : i < 3) (hj : j < 3) (h : i ≠ j) : pf p i ≠ pf p j := fun e => h (hp.bij.inj i j (by omega) (by omega) e)
theorem ConP.start : ConP A p 0 0 (sqF A.length fun _ _ => 0) := ⟨sqF_sqr _ _, fun _ _ _ _ h => by omega⟩
theorem ConP.step (hA : Lat A) (hp : IsP p) (h3 : p.length = 3) {x y : Nat} {S : List (List Int)} (h : ConP A p x y S) (hx : x < A.length) (hy : y < A.length) :
    ConP A p x (y + 1) (putS S (trA A x y (pf p 0)) (trA A x y (pf p 1)) (trA A x y (pf p 2))) := by
  have h1 := trA_lt hA hx hy (pf p 0)
  have h2 := trA_lt hA hx hy (pf p 1)
  refine ⟨putS_sqr h.sqr h1 _ _, fun x' y' hx' hy' hl => ?_⟩
  rw [at2_putS h.sqr h1 h2]
  split
  · rename_i e
    obtain ⟨rfl, rfl⟩ := tri_inj hA.latin (p3_lt hp h3 (by omega)) (p3_lt hp h3 (by omega)) (p3_ne hp h3 (i := 0) (j := 1) (by omega) (by omega) (by omega)) hx hy hx' hy' e.1 e.2
    rfl
  · rename_i e
    refine h.at' x' y' hx' hy' ?_
    rcases hl with hl | ⟨rfl, hl⟩
    · exact .inl hl
    · refine .inr ⟨rfl, ?_⟩
      by_cases e2 : y' = y
      · subst e2; exact absurd ⟨rfl, rfl⟩ e
      · omega
theorem ConP.next {x : Nat} {S : List (List Int)} (h : ConP A p x A.length S) : ConP A p (x + 1) 0 S :=
  ⟨h.sqr, fun x' y' hx' hy' hl => h.at' x' y' hx' hy' (by omega)⟩
theorem ConP.done {S : List (List Int)} (h : ConP A p A.length 0 S) : ConR A p S := ⟨h.sqr, fun x y hx hy => h.at' x y hx hy (.inl hx)⟩
theorem ConR.uniq (hA : Lat A) (hp : IsP p) (h3 : p.length = 3) (h1 : ConR A p B) (h2 : ConR A p C) : B = C :=
  sq_ext h1.sqr h2.sqr fun u v hu hv => by
    obtain ⟨x, y, hx, hy, rfl, rfl⟩ := tri_onto hA.latin (p3_lt hp h3 (i := 0) (by omega)) (p3_lt hp h3 (i := 1) (by omega)) (p3_ne hp h3 (by omega) (by omega) (by omega)) hu hv
    have e1 := h1.at' x y hx hy
    have e2 := h2.at' x y hx hy
    unfold trA at e1 e2
    rw [e1, e2]
theorem ConR.el (hA : Lat A) (hp : IsP p) (h3 : p.length = 3) (h : ConR A p B) : Sq0 A.length B := by
  refine ⟨h.sqr, fun u v hu hv => ?_⟩
  obtain ⟨x, y, hx, hy, rfl, rfl⟩ := tri_onto hA.latin (p3_lt hp h3 (i := 0) (by omega)) (p3_lt hp h3 (i := 1) (by omega)) (p3_ne hp h3 (by omega) (by omega) (by omega)) hu hv
  have e1 := h.at' x y hx hy
  have e2 := trA_lt hA hx hy (pf p 2)
  unfold trA at e1 e2
  rw [e1]; omega
/-- conjugates are Latin squares -/
theorem ConR.lat (hA : Lat A) (hp : IsP p) (h3 : p.length = 3) (h : ConR A p B) : Lat B := by
  have h0 := h.el hA hp h3
  have hb := h.sqr.len
  have on := fun {u v : Nat} (hu : u < A.length) (hv : v < A.length) => tri_onto hA.latin (p3_lt hp h3 (i := 0) (by omega)) (p3_lt hp h3 (i := 1) (by omega)) (p3_ne hp h3 (by omega) (by omega) (by omega)) hu hv
  refine ⟨by rw [hb]; exact hA.pos, by rw [hb]; exact hA.le, fun x hx => by rw [hb] at hx ⊢; exact h0.row x hx, fun u hu => ?_, fun v hv => ?_⟩
  · rw [hb] at hu
    refine ⟨fun v hv => ?_, fun v v' hv hv' e => ?_⟩
    · rw [h0.row u hu] at hv ⊢; exact h0.el u v hu hv
    · rw [h0.row u hu] at hv hv'
      obtain ⟨x, y, hx, hy, e1, e2⟩ := on hu hv
      obtain ⟨x', y', hx', hy', e1', e2'⟩ := on hu hv'
      have f1 := h.at' x y hx hy
      have f2 := h.at' x' y' hx' hy'
      unfold trA at f1 f2
      rw [e1, e2] at f1
      rw [e1', e2'] at f2
      have e' : at2 B u v = at2 B u v' := e
      rw [f1, f2] at e'
      obtain ⟨rfl, rfl⟩ := tri_inj hA.latin (p3_lt hp h3 (by omega)) (p3_lt hp h3 (by omega)) (p3_ne hp h3 (i := 0) (j := 2) (by omega) (by omega) (by omega)) hx hy hx' hy' (e1.trans e1'.symm) (by omega)
      rw [← e2, ← e2']
  · rw [hb] at hv
    refine ⟨fun u hu => ?_, fun u u' hu hu' e => ?_⟩
    · rw [colL_len, hb] at hu ⊢; rw [nth_colL (by rw [hb]; exact hu)]; exact h0.el u v hu hv
    · rw [colL_len, hb] at hu hu'
      rw [nth_colL (by rw [hb]; exact hu), nth_colL (by rw [hb]; exact hu')] at e
      obtain ⟨x, y, hx, hy, e1, e2⟩ := on hu hv
      obtain ⟨x', y', hx', hy', e1', e2'⟩ := on hu' hv
      have f1 := h.at' x y hx hy
      have f2 := h.at' x' y' hx' hy'
      unfold trA at f1 f2
      rw [e1, e2] at f1
      rw [e1', e2'] at f2
      rw [f1, f2] at e
      obtain ⟨rfl, rfl⟩ := tri_inj hA.latin (p3_lt hp h3 (by omega)) (p3_lt hp h3 (by omega)) (p3_ne hp h3 (i := 1) (j := 2) (by omega) (by omega) (by omega)) hx hy hx' hy' (e2.trans e2'.symm) (by omega)
      rw [← e1, ← e1']
/-- conjugates of conjugates -/
theorem ConR.comp (hA : Lat A) (hp : IsP p) (hq : IsP q) (h3 : p.length = 3) (hq3 : q.length = 3) (h1 : ConR A p B) (h2 : ConR B q C) : ConR A (cmpL q p) C := by
  have hb := h1.sqr.len
  have hl := hA.latin
  refine ⟨by rw [← hb]; exact h2.sqr, fun x y hx hy => ?_⟩
  have c1 : ConjOf A.length (af A) (pf p) (af B) := fun x y hx hy => by
    have := h1.at' x y hx hy
    show (at2 B (trA A x y (pf p 0)) (trA A x y (pf p 1))).toNat = trA A x y (pf p 2)
    rw [this]; simp
  have c2 : ConjOf A.length (af B) (pf q) (af C) := fun x y hx hy => by
    have := h2.at' x y (by omega) (by omega)
    show (at2 C (trA B x y (pf q 0)) (trA B x y (pf q 1))).toNat = trA B x y (pf q 2)
    rw [this]; simp
  have hq' : Bij 3 (pf q) := by have := hq.bij; rwa [hq3] at this
  have c3 := ConjOf.comp hl hq' c1 c2 x y hx hy
  rw [pf_cmpL (by omega), pf_cmpL (by omega), pf_cmpL (by omega)]
  have hz := h2.el (h1.lat hA hp h3) hq hq3
  have z := hz.el (trA A x y (pf p (pf q 0))) (trA A x y (pf p (pf q 1))) (by rw [hb]; exact trA_lt hA hx hy _) (by rw [hb]; exact trA_lt hA hx hy _)
  have e : (af C (trA A x y (pf p (pf q 0))) (trA A x y (pf p (pf q 1))) : Int) = trA A x y (pf p (pf q 2)) := by
    unfold trA; exact congrArg Int.ofNat c3
  rw [← e]; unfold af; omega
end

end Go.Proofs.Ytdlmohigkkdegaa
end

section
/- The three parities of a Latin square: their sum follows from the order. In plain terms. -/
namespace Go.Proofs.Ytdlmohigkkdegaa
set_option linter.unusedSimpArgs false
set_option linter.unusedVariables false
/-- permutations of n numbers, side by side -/
def blk (n : Nat) (p : Nat → Nat → Nat) : Nat → Nat := fun x => n * (x / n) + p (x / n) (x % n)
theorem dm_div {n r c : Nat} (hc : c < n) : (n * r + c) / n = r := by rw [Nat.mul_add_div (by omega), Nat.div_eq_of_lt hc, Nat.add_zero]
theorem dm_mod {n r c : Nat} (hc : c < n) : (n * r + c) % n = c := by rw [Nat.mul_add_mod, Nat.mod_eq_of_lt hc]
theorem dm_lt {n m r c : Nat} (hr : r < m) (hc : c < n) : n * r + c < n * m := by
  have : n * (r + 1) ≤ n * m := Nat.mul_le_mul_left n hr
  rw [Nat.mul_add] at this; omega
theorem dm_of {n m x : Nat} (h : x < n * m) : ∃ r c, r < m ∧ c < n ∧ x = n * r + c := by
  have h0 : 0 < n := by rcases Nat.eq_zero_or_pos n with rfl | h1; (rw [Nat.zero_mul] at h; omega); exact h1
  exact ⟨x / n, x % n, Nat.div_lt_of_lt_mul h, Nat.mod_lt _ h0, (Nat.div_add_mod x n).symm⟩
section
variable {n : Nat} {p : Nat → Nat → Nat}
theorem blk_at {r c : Nat} (hc : c < n) : blk n p (n * r + c) = n * r + p r c := by unfold blk; rw [dm_div hc, dm_mod hc]
theorem it_blk {r c : Nat} (h : Bij n (p r)) (hc : c < n) : ∀ k, it (blk n p) k (n * r + c) = n * r + it (p r) k c
  | 0 => rfl
  | k + 1 => by show blk n p (it (blk n p) k (n * r + c)) = _; rw [it_blk h hc k, blk_at (it_lt h hc k)]; rfl
theorem lead_blk {r c : Nat} (h : Bij n (p r)) (hc : c < n) : Lead (blk n p) (n * r + c) ↔ Lead (p r) c := by
  unfold Lead
  exact ⟨fun hl k => by have := hl k; rw [it_blk h hc k] at this; omega, fun hl k => by rw [it_blk h hc k]; have := hl k; omega⟩
theorem cyc_blk1 {r : Nat} (h : Bij n (p r)) : ∀ j, j ≤ n → cyc (n * r + j) (blk n p) = cyc (n * r) (blk n p) + cyc j (p r)
  | 0, _ => rfl
  | j + 1, hj => by
    rw [← Nat.add_assoc, cyc, cyc, cyc_blk1 h j (by omega)]
    by_cases e : Lead (p r) j
    · rw [if_pos e, if_pos ((lead_blk h (by omega)).2 e)]; omega
    · rw [if_neg e, if_neg (fun e2 => e ((lead_blk h (by omega)).1 e2))]; omega
theorem blk_bij {m : Nat} (h : ∀ r, r < m → Bij n (p r)) : Bij (n * m) (blk n p) where
  lt x hx := by obtain ⟨r, c, hr, hc, rfl⟩ := dm_of hx; rw [blk_at hc]; exact dm_lt hr ((h r hr).lt c hc)
  inj x y hx hy e := by
    obtain ⟨r, c, hr, hc, rfl⟩ := dm_of hx
    obtain ⟨s, d, hs, hd, rfl⟩ := dm_of hy
    rw [blk_at hc, blk_at hd] at e
    have e1 := congrArg (· / n) e
    simp only [dm_div ((h r hr).lt c hc), dm_div ((h s hs).lt d hd)] at e1
    subst e1
    have := (h r hr).inj c d hc hd (by omega)
    rw [this]
/-- the product of the signs -/
noncomputable def prs (n : Nat) (p : Nat → Nat → Nat) : Nat → Int
  | 0 => 1
  | m + 1 => prs n p m * sgn n (p m)
theorem sgn_blk : ∀ {m : Nat}, (∀ r, r < m → Bij n (p r)) → sgn (n * m) (blk n p) = prs n p m
  | 0, _ => by simp [sgn, prs]
  | m + 1, h => by
    have h1 := sgn_blk (m := m) fun r hr => h r (by omega)
    have h2 := cyc_blk1 (p := p) (h m (by omega)) n (Nat.le_refl n)
    have h3 := cyc_le (p := blk n p) (n * m)
    have h4 := cyc_le (p := p m) n
    rw [prs, ← h1]
    unfold sgn
    rw [Nat.mul_add, Nat.mul_one, h2]
    generalize cyc (n * m) (blk n p) = a at *
    generalize cyc n (p m) = b at *
    generalize n * m = N at *
    rw [show N + n - (a + b) = (N - a) + (n - b) by omega]
    rcases Nat.mod_two_eq_zero_or_one (N - a) with e1 | e1 <;> rcases Nat.mod_two_eq_zero_or_one (n - b) with e2 | e2 <;> simp [Nat.add_mod, e1, e2]
end
/-! ### exchanging the two parts -/
def tau (n : Nat) : Nat → Nat := fun x => n * (x % n) + x / n
section
variable {n : Nat}
theorem tau_at {r c : Nat} (hc : c < n) : tau n (n * r + c) = n * c + r := by unfold tau; rw [dm_div hc, dm_mod hc]
theorem tau_bij (n : Nat) : Bij (n * n) (tau n) where
  lt x hx := by obtain ⟨r, c, hr, hc, rfl⟩ := dm_of hx; rw [tau_at hc]; exact dm_lt hc hr
  inj x y hx hy e := by
    obtain ⟨r, c, hr, hc, rfl⟩ := dm_of hx
    obtain ⟨s, d, hs, hd, rfl⟩ := dm_of hy
    rw [tau_at hc, tau_at hd] at e
    have e1 := congrArg (· / n) e
    simp only [dm_div hr, dm_div hs] at e1
    subst e1
    have : r = s := by omega
    rw [this]
theorem it_tau {r c : Nat} (hr : r < n) (hc : c < n) : ∀ k, it (tau n) k (n * r + c) = n * r + c ∨ it (tau n) k (n * r + c) = n * c + r
  | 0 => .inl rfl
  | k + 1 => by
    show tau n (it (tau n) k (n * r + c)) = _ ∨ tau n (it (tau n) k (n * r + c)) = _
    rcases it_tau hr hc k with e | e
    · rw [e, tau_at hc]; exact .inr rfl
    · rw [e, tau_at hr]; exact .inl rfl
theorem lead_tau {r c : Nat} (hr : r < n) (hc : c < n) : Lead (tau n) (n * r + c) ↔ r ≤ c := by
  constructor
  · intro h
    have h1 := h 1
    rw [show it (tau n) 1 (n * r + c) = tau n (n * r + c) from rfl, tau_at hc] at h1
    refine Classical.byContradiction fun hn => ?_
    obtain ⟨d, rfl⟩ : ∃ d, r = c + (d + 1) := ⟨r - c - 1, by omega⟩
    have h2 : 2 * (d + 1) ≤ n * (d + 1) := Nat.mul_le_mul_right _ (by omega)
    rw [Nat.mul_add n c (d + 1)] at h1
    omega
  · intro h k
    rcases it_tau hr hc k with e | e
    · omega
    · rw [e]
      obtain ⟨d, rfl⟩ : ∃ d, c = r + d := ⟨c - r, by omega⟩
      have h2 : 1 * d ≤ n * d := Nat.mul_le_mul_right _ (by omega)
      rw [Nat.mul_add n r d]
      omega
theorem cyc_tau1 {r : Nat} (hr : r < n) : ∀ j, j ≤ n → cyc (n * r + j) (tau n) = cyc (n * r) (tau n) + (j - r)
  | 0, _ => by simp
  | j + 1, hj => by
    rw [← Nat.add_assoc, cyc, cyc_tau1 hr j (by omega)]
    by_cases e : r ≤ j
    · rw [if_pos ((lead_tau hr (by omega)).2 e)]; omega
    · rw [if_neg (fun e2 => e ((lead_tau hr (by omega)).1 e2))]; omega
theorem cyc_tau : ∀ m, m ≤ n → 2 * cyc (n * m) (tau n) + m * (m - 1) = 2 * (n * m)
  | 0, _ => by simp [cyc]
  | m + 1, hm => by
    have h1 := cyc_tau m (by omega)
    rw [Nat.mul_add n m 1, Nat.mul_one, cyc_tau1 (by omega) n (Nat.le_refl n)]
    have h2 : (m + 1) * (m + 1 - 1) = m * (m - 1) + 2 * m := by
      rcases m with _ | m
      · rfl
      · simp only [Nat.add_sub_cancel]
        rw [Nat.add_mul (m + 1) 1 (m + 1), Nat.mul_add (m + 1) m 1]; omega
    rw [h2]
    generalize n * m = a at *
    generalize m * (m - 1) = b at *
    omega
theorem sgn_tau (n : Nat) : sgn (n * n) (tau n) = if n * (n - 1) / 2 % 2 = 0 then 1 else -1 := by
  have h1 := cyc_tau (n := n) n (Nat.le_refl n)
  have h2 := cyc_le (p := tau n) (n * n)
  unfold sgn
  rw [show n * n - cyc (n * n) (tau n) = n * (n - 1) / 2 by omega]
end
theorem sgn_congr {n : Nat} {p q : Nat → Nat} (h : Bij n p) (hpq : ∀ x, x < n → p x = q x) : sgn n p = sgn n q := by
  unfold sgn; rw [cyc_eq h hpq n (Nat.le_refl n)]
/-- the sign theorem: rows, symbols, columns -/
theorem par_sgn {n : Nat} {a σ : Nat → Nat → Nat} (h1 : ∀ r, r < n → Bij n (a r)) (h2 : ∀ c, c < n → Bij n fun r => a r c) (h3 : ∀ s, s < n → Bij n (σ s)) (h4 : ∀ r c, r < n → c < n → σ (a r c) r = c) :
    prs n a n * prs n (fun c r => a r c) n * prs n σ n = if n * (n - 1) / 2 % 2 = 0 then 1 else -1 := by
  rw [← sgn_tau, ← sgn_blk h1, ← sgn_blk (p := fun c r => a r c) h2, ← sgn_blk h3]
  have b1 := blk_bij h1
  have b2 := blk_bij (p := fun c r => a r c) h2
  have b3 := blk_bij h3
  have bt := tau_bij n
  have e1 := sgn_comp bt b2
  have e2 := sgn_comp (bij_comp (bij_comp b1 bt) b3) bt
  rw [sgn_comp (bij_comp b1 bt) b3, sgn_comp b1 bt] at e2
  have e3 : sgn (n * n) (fun x => tau n (blk n σ (tau n (blk n a x)))) = sgn (n * n) (fun x => blk n (fun c r => a r c) (tau n x)) :=
    sgn_congr (bij_comp (bij_comp (bij_comp b1 bt) b3) bt) fun x hx => by
      obtain ⟨r, c, hr, hc, rfl⟩ := dm_of hx
      have hs := (h1 r hr).lt c hc
      rw [blk_at hc, tau_at hs, blk_at hr, h4 r c hr hc, tau_at hc, tau_at hc, blk_at hr]
  rw [e1] at e3
  rw [e3] at e2
  clear e1 e3 b1 b2 b3 bt h1 h2 h3 h4
  rcases sgn_pm (n * n) (blk n a) with q1 | q1 <;> rcases sgn_pm (n * n) (blk n σ) with q2 | q2 <;> rcases sgn_pm (n * n) (tau n) with q3 | q3 <;> rcases sgn_pm (n * n) (blk n fun c r => a r c) with q4 | q4 <;>
    rw [q1, q2, q3, q4] at e2 ⊢ <;> first | rfl | (revert e2; decide)
/-- the parity of the number of odd permutations -/
noncomputable def oddN (n : Nat) (p : Nat → Nat → Nat) : Nat → Nat
  | 0 => 0
  | m + 1 => if sgn n (p m) < 0 then 1 - oddN n p m else oddN n p m
theorem oddN_prs (n : Nat) (p : Nat → Nat → Nat) : ∀ m, (oddN n p m = 0 ∧ prs n p m = 1) ∨ (oddN n p m = 1 ∧ prs n p m = -1)
  | 0 => .inl ⟨rfl, rfl⟩
  | m + 1 => by
    rw [oddN, prs]
    rcases oddN_prs n p m with ⟨e1, e2⟩ | ⟨e1, e2⟩ <;> rcases sgn_pm n (p m) with e3 | e3 <;> rw [e1, e2, e3] <;> simp
theorem par_odd {n : Nat} {a σ : Nat → Nat → Nat} (h1 : ∀ r, r < n → Bij n (a r)) (h2 : ∀ c, c < n → Bij n fun r => a r c) (h3 : ∀ s, s < n → Bij n (σ s)) (h4 : ∀ r c, r < n → c < n → σ (a r c) r = c) :
    (oddN n a n + oddN n (fun c r => a r c) n + oddN n σ n) % 2 = n * (n - 1) / 2 % 2 := by
  have h := par_sgn h1 h2 h3 h4
  rcases oddN_prs n a n with ⟨e1, f1⟩ | ⟨e1, f1⟩ <;> rcases oddN_prs n (fun c r => a r c) n with ⟨e2, f2⟩ | ⟨e2, f2⟩ <;> rcases oddN_prs n σ n with ⟨e3, f3⟩ | ⟨e3, f3⟩ <;>
    rw [f1, f2, f3] at h <;> rw [e1, e2, e3] <;> rcases Nat.mod_two_eq_zero_or_one (n * (n - 1) / 2) with e4 | e4 <;> rw [e4] at h ⊢ <;> first | rfl | (revert h; decide)
end Go.Proofs.Ytdlmohigkkdegaa
end

section
/- Intercalates of Latin squares, in plain terms: their list, isotopes have as many, switching one. -/
namespace Go.Proofs.Ytdlmohigkkdegaa
set_option linter.unusedSimpArgs false
set_option linter.unusedVariables false
/-- the rows r, s and the columns c, d hold two symbols -/
def Inc (A : List (List Int)) (r s c d : Nat) : Prop := at2 A r c = at2 A s d ∧ at2 A r d = at2 A s c
instance (A : List (List Int)) (r s c d : Nat) : Decidable (Inc A r s c d) := by unfold Inc; exact inferInstance
def q4 (r s c d : Nat) : List Int := [(r : Int), (s : Int), (c : Int), (d : Int)]
def itD (A : List (List Int)) (r s c d : Nat) : List (List Int) := (List.range d).flatMap fun e => if c < e ∧ Inc A r s c e then [q4 r s c e] else []
def itC (n : Nat) (A : List (List Int)) (r s c : Nat) : List (List Int) := (List.range c).flatMap fun b => itD A r s b n
def itS (n : Nat) (A : List (List Int)) (r s : Nat) : List (List Int) := (List.range s).flatMap fun t => if r < t then itC n A r t n else []
def itR (n : Nat) (A : List (List Int)) (r : Nat) : List (List Int) := (List.range r).flatMap fun q => itS n A q n
/-- all intercalates -/
def itL (A : List (List Int)) : List (List Int) := itR A.length A A.length
section
variable {n : Nat} {A : List (List Int)} {r s c d : Nat}
theorem itD_yes (hc : c < d) (h : Inc A r s c d) : itD A r s c (d + 1) = itD A r s c d ++ [q4 r s c d] := by simp [itD, List.range_succ, hc, h]
theorem itD_no (h : ¬ Inc A r s c d) : itD A r s c (d + 1) = itD A r s c d := by simp [itD, List.range_succ, h]
theorem itD_lo : ∀ {d : Nat}, d ≤ c + 1 → itD A r s c d = []
  | 0, _ => rfl
  | d + 1, h => by
    have h1 := itD_lo (d := d) (by omega)
    unfold itD at h1 ⊢
    rw [List.range_succ, List.flatMap_append, h1]
    simp; intro h2; omega
theorem itC_succ : itC n A r s (c + 1) = itC n A r s c ++ itD A r s c n := by simp [itC, List.range_succ]
theorem itS_succ (h : r < s) : itS n A r (s + 1) = itS n A r s ++ itC n A r s n := by simp [itS, List.range_succ, h]
theorem itS_lo : ∀ {s : Nat}, s ≤ r + 1 → itS n A r s = []
  | 0, _ => rfl
  | s + 1, h => by
    have h1 := itS_lo (s := s) (by omega)
    unfold itS at h1 ⊢
    rw [List.range_succ, List.flatMap_append, h1]
    simp; intro h2; omega
theorem itR_succ : itR n A (r + 1) = itR n A r ++ itS n A r n := by simp [itR, List.range_succ]
theorem mem_itL {x : List Int} : x ∈ itL A ↔ ∃ r s c d, r < s ∧ s < A.length ∧ c < d ∧ d < A.length ∧ Inc A r s c d ∧ x = q4 r s c d := by
  unfold itL itR itS itC itD
  simp only [List.mem_flatMap, List.mem_range]
  constructor
  · rintro ⟨r, hr, s, hs, h⟩
    split at h
    · rename_i hrs
      simp only [List.mem_flatMap, List.mem_range] at h
      obtain ⟨c, hc, d, hd, h⟩ := h
      split at h
      · rename_i h1
        simp at h
        exact ⟨r, s, c, d, hrs, hs, h1.1, hd, h1.2, h⟩
      · cases h
    · cases h
  · rintro ⟨r, s, c, d, h1, h2, h3, h4, h5, rfl⟩
    refine ⟨r, by omega, s, h2, ?_⟩
    rw [if_pos h1]
    simp only [List.mem_flatMap, List.mem_range]
    refine ⟨c, by omega, d, h4, ?_⟩
    rw [if_pos ⟨h3, h5⟩]
    simp
theorem q4_inj {r s c d r' s' c' d' : Nat} (e : q4 r s c d = q4 r' s' c' d') : r = r' ∧ s = s' ∧ c = c' ∧ d = d' := by
  simp [q4] at e; omega
theorem nodup_fm {α β : Type} {l : List α} {f : α → List β} (h1 : ∀ a ∈ l, (f a).Nodup) (h2 : l.Pairwise fun a b => ∀ x ∈ f a, ∀ y ∈ f b, x ≠ y) : (l.flatMap f).Nodup := by
  rw [List.nodup_iff_pairwise_ne, List.pairwise_flatMap]
  exact ⟨fun a ha => by rw [← List.nodup_iff_pairwise_ne]; exact h1 a ha, h2⟩
theorem range_pw {m : Nat} {R : Nat → Nat → Prop} (h : ∀ a b, a < b → R a b) : (List.range m).Pairwise R := by
  refine List.Pairwise.imp (R := (· < ·)) (fun {a b} hab => h a b hab) ?_
  exact List.pairwise_lt_range
theorem mem_itD {x : List Int} {e : Nat} (h : x ∈ itD A r s c e) : ∃ d, x = q4 r s c d := by
  unfold itD at h
  obtain ⟨d, _, h⟩ := List.mem_flatMap.1 h
  split at h
  · exact ⟨d, by simpa using h⟩
  · cases h
theorem mem_itC {x : List Int} {e : Nat} (h : x ∈ itC n A r s e) : ∃ c d, x = q4 r s c d := by
  unfold itC at h
  obtain ⟨c, _, h⟩ := List.mem_flatMap.1 h
  exact ⟨c, mem_itD h⟩
theorem mem_itS {x : List Int} {e : Nat} (h : x ∈ itS n A r e) : ∃ s c d, x = q4 r s c d := by
  unfold itS at h
  obtain ⟨s, _, h⟩ := List.mem_flatMap.1 h
  split at h
  · exact ⟨s, mem_itC h⟩
  · cases h
theorem itL_nodup (A : List (List Int)) : (itL A).Nodup := by
  refine nodup_fm (fun r _ => nodup_fm (fun s _ => ?_) ?_) ?_
  · split
    · refine nodup_fm (fun c _ => nodup_fm (fun d _ => ?_) ?_) ?_
      · split <;> simp
      · refine range_pw fun a b hab x hx y hy e => ?_
        split at hx
        · split at hy
          · simp at hx hy
            subst hx; subst hy
            have := q4_inj e; omega
          · cases hy
        · cases hx
      · refine range_pw fun a b hab x hx y hy e => ?_
        obtain ⟨_, rfl⟩ := mem_itD hx
        obtain ⟨_, rfl⟩ := mem_itD hy
        have := q4_inj e; omega
    · exact List.nodup_nil
  · refine range_pw fun a b hab x hx y hy e => ?_
    split at hx
    · split at hy
      · obtain ⟨_, _, rfl⟩ := mem_itC hx
        obtain ⟨_, _, rfl⟩ := mem_itC hy
        have := q4_inj e; omega
      · cases hy
    · cases hx
  · refine range_pw fun a b hab x hx y hy e => ?_
    obtain ⟨_, _, _, rfl⟩ := mem_itS hx
    obtain ⟨_, _, _, rfl⟩ := mem_itS hy
    have := q4_inj e; omega
theorem Inc.sr (h : Inc A r s c d) : Inc A s r c d := ⟨h.2.symm, h.1.symm⟩
theorem Inc.cd (h : Inc A r s c d) : Inc A r s d c := ⟨h.2, h.1⟩
end
/-! ### isotopes have as many -/
/-- b is a with rows, columns and symbols renamed -/
structure Iso2 (n : Nat) (A B : List (List Int)) (f g h : Nat → Nat) : Prop where
  bf : Bij n f
  bg : Bij n g
  at' : ∀ x y, x < n → y < n → at2 B (f x) (g y) = h (at2 A x y).toNat
theorem Iso2.inc {n : Nat} {A B : List (List Int)} {f g h : Nat → Nat} (H : Iso2 n A B f g h) {r s c d : Nat} (hr : r < n) (hs : s < n) (hc : c < n) (hd : d < n) (e : Inc A r s c d) : Inc B (f r) (f s) (g c) (g d) :=
  ⟨by rw [H.at' r c hr hc, H.at' s d hs hd, e.1], by rw [H.at' r d hr hd, H.at' s c hs hc, e.2]⟩
def incG (f g : Nat → Nat) (x : List Int) : List Int :=
  let r := f (nth x 0).toNat; let s := f (nth x 1).toNat; let c := g (nth x 2).toNat; let d := g (nth x 3).toNat
  q4 (min r s) (max r s) (min c d) (max c d)
theorem incG_q4 (f g : Nat → Nat) (r s c d : Nat) : incG f g (q4 r s c d) = q4 (min (f r) (f s)) (max (f r) (f s)) (min (g c) (g d)) (max (g c) (g d)) := by simp [incG, q4, nth]
theorem minmax {a b c d : Nat} (h1 : min a b = min c d) (h2 : max a b = max c d) : (a = c ∧ b = d) ∨ (a = d ∧ b = c) := by omega
theorem itL_le {n : Nat} {A B : List (List Int)} {f g h : Nat → Nat} (H : Iso2 n A B f g h) (hA : A.length = n) (hB : B.length = n) : (itL A).length ≤ (itL B).length := by
  rw [← List.length_map (f := incG f g)]
  refine List.Nodup.length_le_of_subset ?_ ?_
  · rw [List.nodup_iff_pairwise_ne, List.pairwise_map]
    have h0 := itL_nodup A
    rw [List.nodup_iff_pairwise_ne] at h0
    refine List.Pairwise.imp_of_mem (fun {x y} hx hy hne e => hne ?_) h0
    obtain ⟨r, s, c, d, h1, h2, h3, h4, _, rfl⟩ := mem_itL.1 hx
    obtain ⟨r', s', c', d', k1, k2, k3, k4, _, rfl⟩ := mem_itL.1 hy
    rw [hA] at h2 h4 k2 k4
    rw [incG_q4, incG_q4] at e
    obtain ⟨e1, e2, e3, e4⟩ := q4_inj e
    have ef := fun a b ha hb (e : f a = f b) => H.bf.inj a b ha hb e
    have eg := fun a b ha hb (e : g a = g b) => H.bg.inj a b ha hb e
    have p1 : r = r' ∧ s = s' := by
      rcases minmax e1 e2 with ⟨a1, a2⟩ | ⟨a1, a2⟩
      · exact ⟨ef _ _ (by omega) (by omega) a1, ef _ _ (by omega) (by omega) a2⟩
      · have := ef _ _ (by omega) (by omega) a1
        have := ef _ _ (by omega) (by omega) a2
        omega
    have p2 : c = c' ∧ d = d' := by
      rcases minmax e3 e4 with ⟨a1, a2⟩ | ⟨a1, a2⟩
      · exact ⟨eg _ _ (by omega) (by omega) a1, eg _ _ (by omega) (by omega) a2⟩
      · have := eg _ _ (by omega) (by omega) a1
        have := eg _ _ (by omega) (by omega) a2
        omega
    rw [p1.1, p1.2, p2.1, p2.2]
  · intro y hy
    obtain ⟨x, hx, rfl⟩ := List.mem_map.1 hy
    obtain ⟨r, s, c, d, h1, h2, h3, h4, h5, rfl⟩ := mem_itL.1 hx
    rw [hA] at h2 h4
    rw [incG_q4]
    have q := H.inc (by omega) h2 (by omega) h4 h5
    have n1 : f r ≠ f s := fun e => by have := H.bf.inj r s (by omega) h2 e; omega
    have n2 : g c ≠ g d := fun e => by have := H.bg.inj c d (by omega) h4 e; omega
    have l1 := H.bf.lt r (by omega)
    have l2 := H.bf.lt s (by omega)
    have l3 := H.bg.lt c (by omega)
    have l4 := H.bg.lt d (by omega)
    refine mem_itL.2 ⟨_, _, _, _, by omega, by rw [hB]; omega, by omega, by rw [hB]; omega, ?_, rfl⟩
    rcases Nat.lt_or_gt_of_ne n1 with m1 | m1 <;> rcases Nat.lt_or_gt_of_ne n2 with m2 | m2
    · rw [Nat.min_eq_left (by omega), Nat.max_eq_right (by omega), Nat.min_eq_left (by omega), Nat.max_eq_right (by omega)]; exact q
    · rw [Nat.min_eq_left (by omega), Nat.max_eq_right (by omega), Nat.min_eq_right (by omega), Nat.max_eq_left (by omega)]; exact q.cd
    · rw [Nat.min_eq_right (by omega), Nat.max_eq_left (by omega), Nat.min_eq_left (by omega), Nat.max_eq_right (by omega)]; exact q.sr
    · rw [Nat.min_eq_right (by omega), Nat.max_eq_left (by omega), Nat.min_eq_right (by omega), Nat.max_eq_left (by omega)]; exact q.cd.sr
/-- isotopes of Latin squares have as many intercalates -/
theorem itL_iso {A : List (List Int)} {r c s : List Int} (hA : Lat A) (hr : IsP r) (hc : IsP c) (hs : IsP s) (hrl : r.length = A.length) (hcl : c.length = A.length) (hsl : s.length = A.length) : (itL (isoL A r c s)).length = (itL A).length := by
  have h0 := hA.sq0
  have hl := isoL_len A r c s
  have key : ∀ {A' : List (List Int)} {r' c' s' : List Int}, A'.length = A.length → Sq0 A.length A' → IsP r' → IsP c' → IsP s' → r'.length = A.length → c'.length = A.length → s'.length = A.length → Iso2 A.length A' (isoL A' r' c' s') (pf r') (pf c') (pf s') := by
    intro A' r' c' s' hl' hq p1 p2 p3 l1 l2 l3
    refine ⟨by rw [← l1]; exact p1.bij, by rw [← l2]; exact p2.bij, fun x y hx hy => ?_⟩
    rw [isoL_at p1 p2 (by rw [l1, hl']) (by rw [l2, hl']) (by rw [hl']; exact hx) (by rw [hl']; exact hy)]
    have := hq.el x y hx hy
    exact nth_pf p3 (by omega)
  refine Nat.le_antisymm ?_ (itL_le (key rfl h0 hr hc hs hrl hcl hsl) rfl hl)
  have hb := isoL_sq0 hs hr hc hrl hcl hsl h0
  have e := isoL_inv h0 hr hc hs hrl hcl hsl
  have k := key (A' := isoL A r c s) (r' := invL r) (c' := invL c) (s' := invL s) hl (by rw [← hl] at hb ⊢; rw [hl] at hb ⊢; exact hb) hr.inv hc.inv hs.inv (by rw [invL_len]; exact hrl) (by rw [invL_len]; exact hcl) (by rw [invL_len]; exact hsl)
  rw [e] at k
  exact itL_le k hl rfl
/-! ### switching -/
/-- the square with the intercalate switched -/
def swI (A : List (List Int)) (r s c d : Nat) : List (List Int) := sqF A.length fun x y => if y = c ∨ y = d then (if x = r then at2 A s y else if x = s then at2 A r y else at2 A x y) else at2 A x y
section
variable {A : List (List Int)} {r s c d : Nat}
theorem swI_sqr : Sqr A.length (swI A r s c d) := sqF_sqr _ _
theorem swI_len : (swI A r s c d).length = A.length := swI_sqr.len
theorem swI_at {x y : Nat} (hx : x < A.length) (hy : y < A.length) : at2 (swI A r s c d) x y = if y = c ∨ y = d then (if x = r then at2 A s y else if x = s then at2 A r y else at2 A x y) else at2 A x y := by
  unfold swI; rw [at2_sqF hx hy]
theorem swI_lat (hA : Lat A) (h1 : r < s) (h2 : s < A.length) (h3 : c < d) (h4 : d < A.length) (h : Inc A r s c d) : Lat (swI A r s c d) := by
  have h0 := hA.sq0
  -- in row r (and s) the two places are exchanged
  have q : Sq0 A.length (swI A r s c d) := ⟨swI_sqr, fun x y hx hy => by
    rw [swI_at hx hy]
    split
    · split
      · exact h0.el s y h2 hy
      · split
        · exact h0.el r y (by omega) hy
        · exact h0.el x y hx hy
    · exact h0.el x y hx hy⟩
  have er : ∀ y, y < A.length → at2 (swI A r s c d) r y = at2 A r (if y = c then d else if y = d then c else y) := fun y hy => by
    rw [swI_at (by omega) hy, if_pos rfl]
    by_cases e1 : y = c
    · subst e1; rw [if_pos (.inl rfl), if_pos rfl]; exact h.2.symm
    · by_cases e2 : y = d
      · subst e2; rw [if_pos (.inr rfl), if_neg e1, if_pos rfl]; exact h.1.symm
      · rw [if_neg (by simp [e1, e2]), if_neg e1, if_neg e2]
  have es : ∀ y, y < A.length → at2 (swI A r s c d) s y = at2 A s (if y = c then d else if y = d then c else y) := fun y hy => by
    rw [swI_at h2 hy, if_neg (show ¬ s = r by omega), if_pos rfl]
    by_cases e1 : y = c
    · subst e1; rw [if_pos (.inl rfl), if_pos rfl]; exact h.1
    · by_cases e2 : y = d
      · subst e2; rw [if_pos (.inr rfl), if_neg e1, if_pos rfl]; exact h.2
      · rw [if_neg (by simp [e1, e2]), if_neg e1, if_neg e2]
  have eo : ∀ x y, x < A.length → y < A.length → x ≠ r → x ≠ s → at2 (swI A r s c d) x y = at2 A x y := fun x y hx hy n1 n2 => by
    rw [swI_at hx hy, if_neg n1, if_neg n2, ite_self]
  have hp : ∀ y, y < A.length → (if y = c then d else if y = d then c else y) < A.length := fun y hy => by split; exact h4; split; omega; exact hy
  have hpi : ∀ i j : Nat, (if i = c then d else if i = d then c else i) = (if j = c then d else if j = d then c else j) → i = j := fun i j e => by
    split at e <;> split at e <;> (try split at e) <;> (try split at e) <;> omega
  refine Lat.of q hA.pos hA.le (fun x i j hx hi hj e => ?_) (fun y i j hy hi hj e => ?_)
  · by_cases n1 : x = r
    · subst n1; rw [er i hi, er j hj] at e; exact hpi i j (hA.rinj hx (hp i hi) (hp j hj) e)
    · by_cases n2 : x = s
      · subst n2; rw [es i hi, es j hj] at e; exact hpi i j (hA.rinj hx (hp i hi) (hp j hj) e)
      · rw [eo x i hx hi n1 n2, eo x j hx hj n1 n2] at e; exact hA.rinj hx hi hj e
  · rw [swI_at hi hy, swI_at hj hy] at e
    by_cases m : y = c ∨ y = d
    · rw [if_pos m, if_pos m] at e
      have g : ∀ i, (if i = r then at2 A s y else if i = s then at2 A r y else at2 A i y) = at2 A (if i = r then s else if i = s then r else i) y := fun i => by split; rfl; split <;> rfl
      rw [g i, g j] at e
      have := hA.cinj hy (by split; exact h2; split; omega; exact hi) (by split; exact h2; split; omega; exact hj) e
      split at this <;> split at this <;> (try split at this) <;> (try split at this) <;> omega
    · rw [if_neg m, if_neg m] at e; exact hA.cinj hy hi hj e
theorem swI_ne (hA : Lat A) (h1 : r < s) (h2 : s < A.length) (h3 : c < d) (h4 : d < A.length) : swI A r s c d ≠ A := fun e => by
  have h := swI_at (A := A) (r := r) (s := s) (c := c) (d := d) (x := r) (y := c) (by omega) (by omega)
  rw [e, if_pos (.inl rfl), if_pos rfl] at h
  have := hA.cinj (show c < A.length by omega) (show r < A.length by omega) h2 h
  omega
theorem swI_inc (h1 : r < s) (h2 : s < A.length) (h3 : c < d) (h4 : d < A.length) (h : Inc A r s c d) : Inc (swI A r s c d) r s c d := by
  unfold Inc
  rw [swI_at (by omega) (by omega), swI_at h2 h4, swI_at (by omega) h4, swI_at h2 (by omega)]
  rw [if_pos (.inl rfl), if_pos rfl, if_pos (.inr rfl), if_neg (show ¬ s = r by omega), if_pos rfl, if_pos (.inr rfl), if_pos rfl, if_pos (.inl rfl), if_neg (show ¬ s = r by omega), if_pos rfl]
  exact ⟨h.2.symm, h.1.symm⟩
theorem swI_swI (hA : Lat A) (h1 : r < s) (h2 : s < A.length) (h3 : c < d) (h4 : d < A.length) : swI (swI A r s c d) r s c d = A := by
  have hl := swI_len (A := A) (r := r) (s := s) (c := c) (d := d)
  have hq := swI_sqr (A := swI A r s c d) (r := r) (s := s) (c := c) (d := d)
  rw [hl] at hq
  refine sq_ext hq hA.sq0.toSqr fun x y hx hy => ?_
  rw [swI_at (by rw [hl]; exact hx) (by rw [hl]; exact hy), swI_at h2 hy, swI_at (by omega) hy, swI_at hx hy]
  by_cases m : y = c ∨ y = d
  · rw [if_pos m, if_pos m, if_pos m, if_pos m, if_neg (show ¬ s = r by omega), if_pos rfl, if_pos rfl]
    by_cases e1 : x = r
    · subst e1; rw [if_pos rfl]
    · rw [if_neg e1]
      by_cases e2 : x = s
      · subst e2; rw [if_pos rfl]
      · rw [if_neg e2, if_neg e1, if_neg e2]
  · rw [if_neg m, if_neg m]
end
end Go.Proofs.Ytdlmohigkkdegaa
end

section
/- Walks: the list of the intercalates of a Latin square. -/
namespace Go.Proofs.Ytdlmohigkkdegaa
set_option linter.unusedSimpArgs false
set_option linter.unusedVariables false
open Go.RowKit
attribute [local go_sem ↓] Go.wp_at_zero Go.wp_at_succ

theorem fm_le {β : Type} {f : Nat → List β} {m : Nat} (h : ∀ x, (f x).length ≤ m) : ∀ k, ((List.range k).flatMap f).length ≤ k * m
  | 0 => by simp
  | k + 1 => by
    rw [List.range_succ, List.flatMap_append, List.length_append, Nat.succ_mul]
    have h1 := fm_le h k
    have h2 := h k
    simp only [List.flatMap_cons, List.flatMap_nil, List.append_nil]
    omega
theorem itD_len (A : List (List Int)) (r s c d : Nat) : (itD A r s c d).length ≤ d := by
  have := fm_le (f := fun e => if c < e ∧ Inc A r s c e then [q4 r s c e] else []) (m := 1) (fun x => by split <;> simp) d
  rw [Nat.mul_one] at this; exact this
theorem itC_len (n : Nat) (A : List (List Int)) (r s c : Nat) : (itC n A r s c).length ≤ c * n := fm_le (fun x => itD_len A r s x n) c
theorem itS_len (n : Nat) (A : List (List Int)) (r s : Nat) : (itS n A r s).length ≤ s * (n * n) := fm_le (fun x => by split; exact itC_len n A r x n; simp) s
theorem itR_len (n : Nat) (A : List (List Int)) (r : Nat) : (itR n A r).length ≤ r * (n * (n * n)) := fm_le (fun x => itS_len n A x n) r
theorem it_small {n : Nat} (hn : n ≤ 10) (A : List (List Int)) {r s c d r1 s1 r2 s2 c2 : Nat} (hr : r ≤ n) (hs : s ≤ n) (hc : c ≤ n) (hd : d ≤ n) : (itR n A r ++ itS n A r1 s ++ itC n A r2 s1 c ++ itD A s2 c2 d d).length ≤ 100000 := by
  have h1 := itR_len n A r
  have h2 := itS_len n A r1 s
  have h3 := itC_len n A r2 s1 c
  have h4 := itD_len A s2 c2 d d
  have a1 : n * n ≤ 10 * 10 := Nat.mul_le_mul hn hn
  have a2 : n * (n * n) ≤ 10 * (10 * 10) := Nat.mul_le_mul hn a1
  have a3 : r * (n * (n * n)) ≤ 10 * (10 * (10 * 10)) := Nat.mul_le_mul (by omega) a2
  have a4 : s * (n * n) ≤ 10 * (10 * 10) := Nat.mul_le_mul (by omega) a1
  have a5 : c * n ≤ 10 * 10 := Nat.mul_le_mul (by omega) hn
  simp only [List.length_append]
  omega
/-- behind the append of a row of its own, with more behind -/
theorem own2_snocM {B : Nat} {w0 w : World} {v v' : Value} {us : List Value} {xss : List (List Int)} {u : Value} {xs : List Int} {L2 : List Ent} (hl : us.length = xss.length)
    (h : St B w0 w ((own2 v us xss ++ L2 ++ [row 2 u (iv xs)]).set 0 (row 28 v' (us ++ [u])))) : St B w0 w (own2 v' (us ++ [u]) (xss ++ [xs]) ++ L2) := by
  rw [own2, rowsI_app hl]
  refine h.perm ?_
  show (row 28 v' (us ++ [u]) :: (rowsI us xss ++ L2 ++ [row 2 u (iv xs)])).Perm (row 28 v' (us ++ [u]) :: (rowsI us xss ++ [row 2 u (iv xs)] ++ L2))
  refine List.Perm.cons _ ?_
  rw [List.append_assoc, List.append_assoc]
  exact List.Perm.append_left _ List.perm_append_comm
set_option maxHeartbeats 8000000 in
set_option maxRecDepth 100000 in
theorem intercalatesOf_c (v : Value) (us : List Value) (A : List (List Int)) (n : Nat) (w : World) (hv : RII w v us A) (h : Sq0 n A) (hn : n ≤ 10) : Calls Try.prog 50 #[v] w (MakesII w (itL A)) := by
  have HZ := fun W (h : RII W v us A) => Lib.hid (szII_c v us A W h)
  have hlA := h.len
  have HL : Hid (itL A = itR n A n) := Lib.hid (by rw [itL, hlA])
  rw [hlA] at HZ
  have hix := hv.ixe
  rw [hlA] at hix
  have HS := Lib.hid h
  have hS0 := (St.refl w).newnil 28
  have Hrx := fun x (hx : x < n) => Lib.hid (show ∀ y, y < n → ∀ W : World, (Instr.indexAt 28 (vat us x) (.int .i64 (y : Int))).run Try.prog W = .ok (.pointer (some (el (vat us x) y))) W from fun y hy W => (hv.row x (by rw [hlA]; exact hx)).ixe (y : Int) y rfl (by rw [h.row x hx]; exact hy) W)
  have Hrc := fun x (hx : x < n) => Lib.hid (show ∀ y, y < n → ∀ W : World, RII W v us A → W.cell? (el (vat us x) y) = some (.int .i64 (at2 A x y)) from fun y hy W hW => (hW.row x (by rw [hlA]; exact hx)).cell y (by rw [h.row x hx]; exact hy))
  have Hc := Lib.hid (show ∀ x, x < n → ∀ W : World, RII W v us A → W.cell? (el v x) = some (vat us x) from fun x hx W hW => hW.cell x (by rw [hlA]; exact hx))
  have Hv := Lib.hid hv
  clear h hlA
  go_enter Try.func50, Try.ntmps50
  go_wp2_with (go_at_call 33; refine (HZ _ hv).out.mono ?_; rintro e w1 ⟨rfl, rfl⟩)
  clear HZ hv
  have hS1 : St w.heap.size w w (own2 (.slice none 0 0) [] (itR n A 0)) := hS0
  clear hS0
  go_loopw [3, 5, 6, 7, 8] (fun o ri _ _ _ wr => ∃ (r : Nat) (uo : List Value), r ≤ n ∧ ri = .int .i64 r ∧ Hid (uo.length = (itR n A r).length) ∧ St w.heap.size w wr (own2 o uo (itR n A r))) (fun _ ri _ _ _ _ => n - (intOf ri).toNat)
  case atStart => exact ⟨0, [], by omega, rfl, rfl, hS1⟩
  case round =>
    clear hS1
    obtain ⟨r, uo, hr, rfl, hlo, hS⟩ := hrel
    by_cases hrn : r < n
    · have hri : (r : Int) < (n : Int) := by omega
      have hS2 : St w.heap.size w wr (own2 u3 uo (itR n A r ++ itS n A r (r + 1))) := by rw [itS_lo (Nat.le_refl _), List.append_nil]; exact hS
      have hlo2 : Hid (uo.length = (itR n A r ++ itS n A r (r + 1)).length) := by rw [itS_lo (Nat.le_refl _), List.append_nil]; exact hlo
      have HE := Lib.hid (itR_succ (n := n) (A := A) (r := r))
      have wr1 : IntKind.i64.wrap ((r : Int) + 1) = ((r + 1 : Nat) : Int) := by rw [IntWalk.i64_in _ (by omega)]; rfl
      clear hS hlo
      go_wp2_with fail
      go_loopw [3, 6, 7, 8] (fun o si _ _ wr => ∃ (s : Nat) (uo : List Value), r + 1 ≤ s ∧ s ≤ n ∧ si = .int .i64 s ∧ Hid (uo.length = (itR n A r ++ itS n A r s).length) ∧ St w.heap.size w wr (own2 o uo (itR n A r ++ itS n A r s))) (fun _ si _ _ _ => n - (intOf si).toNat)
      case atStart => exact ⟨r + 1, uo, by omega, by omega, by first | rfl | go_num, hlo2, hS2⟩
      case round =>
        clear hS2 hlo2
        obtain ⟨s, uo, hs1, hs2, rfl, hlo, hS⟩ := hrel
        by_cases hsn : s < n
        · have hsi : (s : Int) < (n : Int) := by omega
          have hS2 : St w.heap.size w wr (own2 u3 uo (itR n A r ++ itS n A r s ++ itC n A r s 0)) := by rw [show itC n A r s 0 = [] from rfl, List.append_nil]; exact hS
          have hlo2 : Hid (uo.length = (itR n A r ++ itS n A r s ++ itC n A r s 0).length) := by rw [show itC n A r s 0 = [] from rfl, List.append_nil]; exact hlo
          have HE2 := Lib.hid (itS_succ (n := n) (A := A) (r := r) (s := s) (by omega))
          clear hS hlo
          go_wp2_with fail
          go_loopw [3, 7, 8] (fun o ci _ wr => ∃ (c : Nat) (uo : List Value), c ≤ n ∧ ci = .int .i64 c ∧ Hid (uo.length = (itR n A r ++ itS n A r s ++ itC n A r s c).length) ∧ St w.heap.size w wr (own2 o uo (itR n A r ++ itS n A r s ++ itC n A r s c))) (fun _ ci _ _ => n - (intOf ci).toNat)
          case atStart => exact ⟨0, uo, by omega, rfl, hlo2, hS2⟩
          case round =>
            clear hS2 hlo2
            obtain ⟨c, uo, hc, rfl, hlo, hS⟩ := hrel
            by_cases hcn : c < n
            · have hci : (c : Int) < (n : Int) := by omega
              have hS2 : St w.heap.size w wr (own2 u3 uo (itR n A r ++ itS n A r s ++ itC n A r s c ++ itD A r s c (c + 1))) := by rw [itD_lo (Nat.le_refl _), List.append_nil]; exact hS
              have hlo2 : Hid (uo.length = (itR n A r ++ itS n A r s ++ itC n A r s c ++ itD A r s c (c + 1)).length) := by rw [itD_lo (Nat.le_refl _), List.append_nil]; exact hlo
              have HE3 := Lib.hid (show itR n A r ++ itS n A r s ++ itC n A r s (c + 1) = itR n A r ++ itS n A r s ++ itC n A r s c ++ itD A r s c n by rw [itC_succ]; simp only [List.append_assoc])
              have wc1 : IntKind.i64.wrap ((c : Int) + 1) = ((c + 1 : Nat) : Int) := by rw [IntWalk.i64_in _ (by omega)]; rfl
              have HB := fun d (hd : d ≤ n) => Lib.hid (show (itR n A r ++ itS n A r s ++ itC n A r s c ++ itD A r s c d).length < 4294967296 from by
                have h1 := it_small (n := n) hn A (r := r) (s := s) (c := c) (d := d) (r1 := r) (s1 := s) (r2 := r) (s2 := r) (c2 := s) (by omega) (by omega) (by omega) hd
                have h4 := itD_len A r s c d
                simp only [List.length_append] at h1 ⊢
                omega)
              clear hS hlo
              generalize itR n A r ++ itS n A r s ++ itC n A r s c = X at *
              go_wp2_with fail
              go_loopw [3, 8] (fun o di wr => ∃ (d : Nat) (uo : List Value), c + 1 ≤ d ∧ d ≤ n ∧ di = .int .i64 d ∧ Hid (uo.length = (X ++ itD A r s c d).length) ∧ St w.heap.size w wr (own2 o uo (X ++ itD A r s c d))) (fun _ di _ => n - (intOf di).toNat)
              case atStart => exact ⟨c + 1, uo, by omega, by omega, by first | rfl | go_num, hlo2, hS2⟩
              case round =>
                clear hS2 hlo2
                obtain ⟨d, uo, hd1, hd2, rfl, hlo, hS⟩ := hrel
                by_cases hdn : d < n
                · have hdi : (d : Int) < (n : Int) := by omega
                  have x1 := hix (r : Int) r rfl hrn
                  have x2 := hix (s : Int) s rfl hsn
                  have y1 := (Hrx r hrn).out c hcn
                  have y2 := (Hrx r hrn).out d hdn
                  have y3 := (Hrx s hsn).out c hcn
                  have y4 := (Hrx s hsn).out d hdn
                  obtain ⟨L, hL⟩ : ∃ L, L = own2 u3 uo (X ++ itD A r s c d) := ⟨_, rfl⟩
                  rw [← hL] at hS
                  have k1 := fun q : SS w.heap.size w L => Hc.out r hrn _ (q.st.oldII Hv.out)
                  have k2 := fun q : SS w.heap.size w L => Hc.out s hsn _ (q.st.oldII Hv.out)
                  have k3 := fun q : SS w.heap.size w L => (Hrc r hrn).out c hcn _ (q.st.oldII Hv.out)
                  have k4 := fun q : SS w.heap.size w L => (Hrc r hrn).out d hdn _ (q.st.oldII Hv.out)
                  have k5 := fun q : SS w.heap.size w L => (Hrc s hsn).out c hcn _ (q.st.oldII Hv.out)
                  have k6 := fun q : SS w.heap.size w L => (Hrc s hsn).out d hdn _ (q.st.oldII Hv.out)
                  have hdec : (at2 A r c = at2 A s d ∧ at2 A r d = at2 A s c ∧ itD A r s c (d + 1) = itD A r s c d ++ [q4 r s c d]) ∨ (at2 A r c ≠ at2 A s d ∧ itD A r s c (d + 1) = itD A r s c d) ∨ (at2 A r c = at2 A s d ∧ at2 A r d ≠ at2 A s c ∧ itD A r s c (d + 1) = itD A r s c d) := by
                    by_cases e1 : at2 A r c = at2 A s d
                    · by_cases e2 : at2 A r d = at2 A s c
                      · exact .inl ⟨e1, e2, itD_yes (by omega) ⟨e1, e2⟩⟩
                      · exact .inr (.inr ⟨e1, e2, itD_no fun q => e2 q.2⟩)
                    · exact .inr (.inl ⟨e1, itD_no fun q => e1 q.1⟩)
                  generalize at2 A r c = p1 at *
                  generalize at2 A r d = p2 at *
                  generalize at2 A s c = p3 at *
                  generalize at2 A s d = p4 at *
                  have HLe := Lib.hid hL
                  clear hL
                  rcases hdec with ⟨e1, e2, e3⟩ | hdec
                  · have f1 : (p1 == p4) = true := eq_t e1
                    have f2 : (p2 == p3) = true := eq_t e2
                    have H3 := Lib.hid e3
                    have hul := Lib.hid (show uo.length < 4294967296 by rw [hlo.out]; exact (HB d hd2).out)
                    clear e1 e2 e3
                    go_wp2_with fail
                    have hne : Nonempty (SS _ _ _) := ⟨⟨_, hS⟩⟩
                    refine wp_region_st (by kernel_rfl) (by kernel_rfl) hS ?_
                    repeat (go_big_quiet_step (fail))
                    refine wpQuiet_nil ?_
                    rintro _ ⟨s2, rfl⟩
                    have hS3 := s2.st
                    generalize s2.w = w3 at hS3 ⊢
                    rw [HLe.out] at hS3
                    have hS4 : St w.heap.size w w3 (own2 u3 uo (X ++ itD A r s c d) ++ []) := by rw [List.append_nil]; exact hS3
                    have hS1 := hS4.new 2 #[.int .i64 r, .int .i64 s, .int .i64 c, .int .i64 d] (by simp [maxLen])
                    simp only [World.size_alloc, List.size_toArray, List.length_cons, List.length_nil, Nat.zero_add, Nat.reduceAdd] at hS1
                    clear hS hS3 hS4 k1 k2 k3 k4 k5 k6
                    go_wp2_with (at_builtin; refine appII hS1 0 rfl hul.out rfl _ _ rfl rfl _ rfl (by first | rfl | simp [Act.eval, World.size_alloc]) ?_; intro v8 w8 hS8)
                    have hS9 : St w.heap.size w w8 (own2 v8 (uo ++ [.slice (some ⟨w3.heap.size, 0, none⟩) 4 4]) ((X ++ itD A r s c d) ++ [q4 r s c d]) ++ []) := own2_snocM hlo.out hS8
                    rw [List.append_nil, List.append_assoc, ← H3.out] at hS9
                    go_roundw
                    case rel => exact ⟨d + 1, _, by omega, by omega, by go_num, by rw [Hid, H3.out, ← List.append_assoc, List.length_append, List.length_append, hlo.out]; rfl, hS9⟩
                    case measure => simp [intOf]; omega
                  · have hdec2 : (p1 == p4) = false ∨ ((p1 == p4) = true ∧ (p2 == p3) = false) := by
                      rcases hdec with q | q
                      · exact .inl (eq_f q.1)
                      · exact .inr ⟨eq_t q.1, eq_f q.2.1⟩
                    have H3 : Hid (itD A r s c (d + 1) = itD A r s c d) := Lib.hid (by rcases hdec with q | q; exact q.2; exact q.2.2)
                    clear hdec
                    rcases hdec2 with f1 | ⟨f1, f2⟩
                    all_goals
                      go_wp2_with fail
                      have hne : Nonempty (SS _ _ _) := ⟨⟨_, hS⟩⟩
                      refine wp_region_st (by kernel_rfl) (by kernel_rfl) hS ?_
                      repeat (go_big_quiet_step (fail))
                      refine wpQuiet_nil ?_
                      rintro _ ⟨s2, rfl⟩
                      have hS3 := s2.st
                      generalize s2.w = w3 at hS3 ⊢
                      rw [HLe.out] at hS3
                      clear hS k1 k2 k3 k4 k5 k6
                      go_wp2_with fail
                      go_roundw
                      case rel => exact ⟨d + 1, uo, by omega, by omega, by go_num, by rw [H3.out]; exact hlo, by rw [H3.out]; exact hS3⟩
                      case measure => simp [intOf]; omega
                · obtain rfl : d = n := by omega
                  have hdi : ¬ (d : Int) < (d : Int) := by omega
                  go_wp2_with fail
                  go_roundw
                  case rel => exact ⟨c + 1, uo, by omega, by go_num, by rw [HE3.out]; exact hlo, by rw [HE3.out]; exact hS⟩
                  case measure => simp [intOf]; omega
            · obtain rfl : c = n := by omega
              go_wp2_with fail
              go_roundw
              case rel => exact ⟨s + 1, uo, by omega, by omega, by go_num, by rw [HE2.out, ← List.append_assoc]; exact hlo, by rw [HE2.out, ← List.append_assoc]; exact hS⟩
              case measure => simp [intOf]; omega
        · obtain rfl : s = n := by omega
          go_wp2_with fail
          go_roundw
          case rel => exact ⟨r + 1, uo, by omega, by go_num, by rw [HE.out]; exact hlo, by rw [HE.out]; exact hS⟩
          case measure => simp [intOf]; omega
    · obtain rfl : r = n := by omega
      rw [← HL.out] at hS hlo
      go_wp2_with fail
      go_ret
      exact ⟨_, uo, rfl, hlo.out, hS⟩
end Go.Proofs.Ytdlmohigkkdegaa
end

section
/- Walks: arrays by value. Walks: valid arrays, equal arrays. -/
namespace Go.Proofs.Ytdlmohigkkdegaa
set_option linter.unusedSimpArgs false
set_option linter.unusedVariables false
open Go.RowKit


/-- an array as a value -/
def av (lv co : Int) (v : Value) : Value := .agg #[.int .i64 lv, .int .i64 co, v]

/-- a block that holds an array -/
def BoxA (w : World) (g : Nat) (lv co : Int) (v : Value) : Prop :=
  w.cell? ⟨g, 0, none⟩ = some (.int .i64 lv) ∧ w.cell? ⟨g, 1, none⟩ = some (.int .i64 co) ∧ w.cell? ⟨g, 2, none⟩ = some v
theorem cell_keep {w w' : World} (hb : Below w.heap.size w w') {p : Addr} {u : Value} (h : w.cell? p = some u) : w'.cell? p = some u := by
  rw [hb.cell (World.block_lt_of_cell? _ _ h)]; exact h
theorem BoxA.keep {w w' : World} {g : Nat} {lv co : Int} {v : Value} (h : BoxA w g lv co v) (hb : Below w.heap.size w w') : BoxA w' g lv co v :=
  ⟨cell_keep hb h.1, cell_keep hb h.2.1, cell_keep hb h.2.2⟩
end Go.Proofs.Ytdlmohigkkdegaa
end

section
/- Walks: equal lists, equal lists of lists, equal arrays. -/
namespace Go.Proofs.Ytdlmohigkkdegaa
set_option linter.unusedSimpArgs false
set_option linter.unusedVariables false
open Go.RowKit

set_option maxHeartbeats 1000000 in
set_option maxRecDepth 100000 in
theorem l00Same_c (va vb : Value) (xs ys : List Int) (w : World) (ha : RdI w va xs) (hb : RdI w vb ys) :
    Calls Try.prog 92 #[va, vb] w (GivesB w (decide (xs = ys))) := by
  have hla := ha.len
  have hlb := hb.len
  have hia := ha.ix
  have hib := hb.ix
  have hma := ha.le
  by_cases hne : xs.length = ys.length
  · have f0 : ((xs.length : Int) != (ys.length : Int)) = false := ne_f (by omega)
    have hle : xs.length ≤ ys.length := by omega
    have Hne := Lib.hid hne; clear hne
    go_enter Try.func92, Try.ntmps92
    go_wp2_with fail
    go_loopw [5] (fun i wr => ∃ k : Nat, k ≤ xs.length ∧ i = .int .i64 k ∧ Hid (∀ j, j < k → nth xs j = nth ys j) ∧ St w.heap.size w wr []) (fun i _ => xs.length - (intOf i).toNat)
    case atStart => exact ⟨0, by omega, rfl, fun j hj => by omega, St.refl w⟩
    case round =>
      obtain ⟨k, hk, rfl, hI, hS⟩ := hrel
      by_cases hlt : k < xs.length
      · have hqa := fun s : SS w.heap.size w [] => (s.st.oldI ha).cell k hlt
        have hqb := fun s : SS w.heap.size w [] => (s.st.oldI hb).cell k (by omega)
        have hk2 : k < ys.length := by omega
        by_cases h1 : nth xs k = nth ys k
        · have f1 := ne_f h1
          have H1 := Lib.hid h1; clear h1
          go_wp2_with fail
          have hne : Nonempty (SS _ _ _) := ⟨⟨_, hS⟩⟩
          refine wp_region_st (by kernel_rfl) (by kernel_rfl) hS ?_
          repeat (go_big_quiet_step (fail))
          refine wpQuiet_nil ?_
          rintro _ ⟨s2, rfl⟩
          have hS2 := s2.st
          generalize s2.w = w2 at hS2 ⊢
          go_wp2_with fail
          go_roundw
          case rel => exact ⟨k + 1, by omega, by go_num, fun j hj => by
            by_cases e : j = k
            · subst e; exact H1.out
            · exact hI.out j (by omega), hS2⟩
          case measure => simp [intOf]; omega
        · have f1 := ne_t h1
          have H1 := Lib.hid h1; clear h1
          go_wp2_with fail
          have hne : Nonempty (SS _ _ _) := ⟨⟨_, hS⟩⟩
          refine wp_region_st (by kernel_rfl) (by kernel_rfl) hS ?_
          repeat (go_big_quiet_step (fail))
          refine wpQuiet_nil ?_
          rintro _ ⟨s2, rfl⟩
          have hS2 := s2.st
          generalize s2.w = w2 at hS2 ⊢
          go_wp2_with fail
          go_ret
          exact ⟨ret_bool (by symm; rw [decide_eq_false_iff_not]; intro e; subst e; exact H1.out rfl), hS2⟩
      · go_wp2_with fail
        go_ret
        refine ⟨ret_bool ?_, hS⟩
        symm; rw [decide_eq_true_iff]
        apply List.ext_getElem Hne.out
        intro j h1 h2
        have := hI.out j (by omega)
        rwa [nth_eq h1, nth_eq h2] at this
  · have f0 : ((xs.length : Int) != (ys.length : Int)) = true := ne_t (by omega)
    have Hne := Lib.hid hne; clear hne
    go_enter Try.func92, Try.ntmps92
    go_wp2_with fail
    go_ret
    exact ⟨ret_bool (by symm; rw [decide_eq_false_iff_not]; intro e; exact Hne.out (by rw [e])), St.refl w⟩

set_option maxHeartbeats 1000000 in
set_option maxRecDepth 100000 in
theorem l06Same_c (va vb : Value) (us ws : List Value) (xs ys : List (List Int)) (w : World) (ha : RII w va us xs) (hb : RII w vb ws ys) :
    Calls Try.prog 54 #[va, vb] w (GivesB w (decide (xs = ys))) := by
  have hla := ha.len
  have hlb := hb.len
  have hia := ha.ix
  have hib := hb.ix
  have hma := ha.le
  by_cases hne : xs.length = ys.length
  · have f0 : ((xs.length : Int) != (ys.length : Int)) = false := ne_f (by omega)
    have hle : xs.length ≤ ys.length := by omega
    have Hne := Lib.hid hne; clear hne
    go_enter Try.func54, Try.ntmps54
    go_wp2_with fail
    go_loopw [5] (fun i wr => ∃ k : Nat, k ≤ xs.length ∧ i = .int .i64 k ∧ Hid (∀ j, j < k → xat xs j = xat ys j) ∧ St w.heap.size w wr []) (fun i _ => xs.length - (intOf i).toNat)
    case atStart => exact ⟨0, by omega, rfl, fun j hj => by omega, St.refl w⟩
    case round =>
      obtain ⟨k, hk, rfl, hI, hS⟩ := hrel
      by_cases hlt : k < xs.length
      · have hqa := fun s : SS w.heap.size w [] => (s.st.oldII ha).cell k hlt
        have hqb := fun s : SS w.heap.size w [] => (s.st.oldII hb).cell k (by omega)
        have hk2 : k < ys.length := by omega
        by_cases h1 : xat xs k = xat ys k
        · have f1 : decide (xat xs k = xat ys k) = true := decide_eq_true h1
          have H1 := Lib.hid h1; clear h1
          go_wp2_with fail
          have hne : Nonempty (SS _ _ _) := ⟨⟨_, hS⟩⟩
          refine wp_region_st (by kernel_rfl) (by kernel_rfl) hS ?_
          repeat (go_big_quiet_step ((go_at_call 92; exact st_quiet (l00Same_c _ _ _ _ _ (((SS.st _).oldII ha).row k hlt) (((SS.st _).oldII hb).row k hk2)))))
          refine wpQuiet_nil ?_
          rintro _ ⟨s2, rfl⟩
          have hS2 := s2.st
          generalize s2.w = w2 at hS2 ⊢
          go_wp2_with fail
          go_roundw
          case rel => exact ⟨k + 1, by omega, by go_num, fun j hj => by
            by_cases e : j = k
            · subst e; exact H1.out
            · exact hI.out j (by omega), hS2⟩
          case measure => simp [intOf]; omega
        · have f1 : decide (xat xs k = xat ys k) = false := decide_eq_false h1
          have H1 := Lib.hid h1; clear h1
          go_wp2_with fail
          have hne : Nonempty (SS _ _ _) := ⟨⟨_, hS⟩⟩
          refine wp_region_st (by kernel_rfl) (by kernel_rfl) hS ?_
          repeat (go_big_quiet_step ((go_at_call 92; exact st_quiet (l00Same_c _ _ _ _ _ (((SS.st _).oldII ha).row k hlt) (((SS.st _).oldII hb).row k hk2)))))
          refine wpQuiet_nil ?_
          rintro _ ⟨s2, rfl⟩
          have hS2 := s2.st
          generalize s2.w = w2 at hS2 ⊢
          go_wp2_with fail
          go_ret
          exact ⟨ret_bool (by symm; rw [decide_eq_false_iff_not]; intro e; subst e; exact H1.out rfl), hS2⟩
      · go_wp2_with fail
        go_ret
        refine ⟨ret_bool ?_, hS⟩
        symm; rw [decide_eq_true_iff]
        apply List.ext_getElem Hne.out
        intro j h1 h2
        have := hI.out j (by omega)
        rwa [xat_eq h1, xat_eq h2] at this
  · have f0 : ((xs.length : Int) != (ys.length : Int)) = true := ne_t (by omega)
    have Hne := Lib.hid hne; clear hne
    go_enter Try.func54, Try.ntmps54
    go_wp2_with fail
    go_ret
    exact ⟨ret_bool (by symm; rw [decide_eq_false_iff_not]; intro e; exact Hne.out (by rw [e])), St.refl w⟩
set_option maxHeartbeats 1000000 in
set_option maxRecDepth 100000 in
theorem Equal_c (va vb : Value) (xs ys : List Int) (w : World) (ha : RdI w va xs) (hb : RdI w vb ys) :
    Calls Try.prog 88 #[va, vb] w (GivesB w (decide (xs = ys))) := by
  have hla := ha.len
  have hlb := hb.len
  have hia := ha.ix
  have hib := hb.ix
  have hma := ha.le
  by_cases hne : xs.length = ys.length
  · have f0 : ((xs.length : Int) != (ys.length : Int)) = false := ne_f (by omega)
    have hle : xs.length ≤ ys.length := by omega
    have Hne := Lib.hid hne; clear hne
    go_enter Try.func88, Try.ntmps88
    go_wp2_with fail
    go_loopw [5, 13] (fun _ i wr => ∃ k : Nat, k ≤ xs.length ∧ i = .int .i64 k ∧ Hid (∀ j, j < k → nth xs j = nth ys j) ∧ St w.heap.size w wr []) (fun _ i _ => xs.length - (intOf i).toNat)
    case atStart => exact ⟨0, by omega, rfl, fun j hj => by omega, St.refl w⟩
    case round =>
      obtain ⟨k, hk, rfl, hI, hS⟩ := hrel
      by_cases hlt : k < xs.length
      · have hqa := fun s : SS w.heap.size w [] => (s.st.oldI ha).cell k hlt
        have hqb := fun s : SS w.heap.size w [] => (s.st.oldI hb).cell k (by omega)
        have hk2 : k < ys.length := by omega
        by_cases h1 : nth xs k = nth ys k
        · have f1 := ne_f h1
          have H1 := Lib.hid h1; clear h1
          go_wp2_with fail
          have hne : Nonempty (SS _ _ _) := ⟨⟨_, hS⟩⟩
          refine wp_region_st (by kernel_rfl) (by kernel_rfl) hS ?_
          repeat (go_big_quiet_step (fail))
          refine wpQuiet_nil ?_
          rintro _ ⟨s2, rfl⟩
          have hS2 := s2.st
          generalize s2.w = w2 at hS2 ⊢
          go_wp2_with fail
          go_roundw
          case rel => exact ⟨k + 1, by omega, by go_num, fun j hj => by
            by_cases e : j = k
            · subst e; exact H1.out
            · exact hI.out j (by omega), hS2⟩
          case measure => simp [intOf]; omega
        · have f1 := ne_t h1
          have H1 := Lib.hid h1; clear h1
          go_wp2_with fail
          have hne : Nonempty (SS _ _ _) := ⟨⟨_, hS⟩⟩
          refine wp_region_st (by kernel_rfl) (by kernel_rfl) hS ?_
          repeat (go_big_quiet_step (fail))
          refine wpQuiet_nil ?_
          rintro _ ⟨s2, rfl⟩
          have hS2 := s2.st
          generalize s2.w = w2 at hS2 ⊢
          go_wp2_with fail
          go_ret
          exact ⟨ret_bool (by symm; rw [decide_eq_false_iff_not]; intro e; subst e; exact H1.out rfl), hS2⟩
      · go_wp2_with fail
        go_ret
        refine ⟨ret_bool ?_, hS⟩
        symm; rw [decide_eq_true_iff]
        apply List.ext_getElem Hne.out
        intro j h1 h2
        have := hI.out j (by omega)
        rwa [nth_eq h1, nth_eq h2] at this
  · have f0 : ((xs.length : Int) != (ys.length : Int)) = true := ne_t (by omega)
    have Hne := Lib.hid hne; clear hne
    go_enter Try.func88, Try.ntmps88
    go_wp2_with fail
    go_ret
    exact ⟨ret_bool (by symm; rw [decide_eq_false_iff_not]; intro e; exact Hne.out (by rw [e])), St.refl w⟩

end Go.Proofs.Ytdlmohigkkdegaa
end

section
/- Walks: squares and isotopes that are drawn, maps between rows, compositions, columns of a symbol, parities. -/
namespace Go.Proofs.Ytdlmohigkkdegaa
set_option linter.unusedSimpArgs false
set_option linter.unusedVariables false
open Go.RowKit
attribute [local go_sem ↓] Go.wp_at_zero Go.wp_at_succ

/-- some Latin square of at most 6 rows -/
def MakesL6 (w : World) (e : Ending) (w' : World) : Prop := ∃ v us A, e = .returned v ∧ Lat A ∧ A.length ≤ 6 ∧ us.length = A.length ∧ St w.heap.size w w' (own2 v us A)
set_option maxHeartbeats 2000000 in
theorem V8Square_c (w : World) (cv : Value) (bs : List UInt8) (hb : RdB w cv bs) : Calls Try.prog 6 #[cv] w (MakesL6 w) := by
  go_enter Try.func6, Try.ntmps6
  go_wp2_with fail
  refine (l00From_c w cv bs hb).mono ?_
  rintro e w1 ⟨rfl, h1⟩
  go_wp2_with fail
  refine (pick_c w w1 cv bs _ _ _ 6 hb h1 (by omega)).mono ?_
  rintro e w2 ⟨z, z0, z1, rfl, h2⟩
  obtain ⟨k, rfl⟩ := Int.eq_ofNat_of_zero_le z0
  have hk : k ≤ 5 := by omega
  have q1 : IntKind.i64.wrap (1 + (k : Int)) = ((1 + k : Nat) : Int) := by rw [IntWalk.i64_in _ (by omega)]; omega
  clear h1 z0 z1
  go_wp2_with fail
  refine (l06DrawSquareL_c w w2 cv bs _ _ _ (1 + k) hb h2 (by omega) (by omega) (by omega)).mono ?_
  rintro e w3 ⟨v, us, A, rfl, hA, hl, h3⟩
  have hS := h3.st
  rw [List.append_nil] at hS
  clear h2 h3
  go_wp2_with fail
  go_ret
  exact ⟨v, us, A, rfl, hA.lat, by rw [hA.len]; omega, by rw [hl, hA.len], hS⟩
/-- some isotope of A -/
def MakesIso (w : World) (A : List (List Int)) (e : Ending) (w' : World) : Prop := ∃ v us r c s, e = .returned v ∧ IsP r ∧ IsP c ∧ IsP s ∧ r.length = A.length ∧ c.length = A.length ∧ s.length = A.length ∧ us.length = A.length ∧ St w.heap.size w w' (own2 v us (isoL A r c s))
set_option maxHeartbeats 4000000 in
set_option maxRecDepth 100000 in
theorem V8Isotope_c (w : World) (cv v : Value) (bs : List UInt8) (us : List Value) (A : List (List Int)) (hb : RdB w cv bs) (hv : RII w v us A) (hA : Lat A) : Calls Try.prog 7 #[cv, v] w (MakesIso w A) := by
  have hln := hv.len
  have hle := hA.le
  go_enter Try.func7, Try.ntmps7
  go_wp2_with fail
  refine (l00From_c w cv bs hb).mono ?_
  rintro e w1 ⟨rfl, h1⟩
  go_wp2_with fail
  refine (l04DrawPerm_c w _ cv bs _ _ _ A.length hb h1 (by omega) (by omega)).mono ?_
  rintro e wb ⟨rv, rs, rfl, rl, rp, h7⟩
  have Rl := Lib.hid rl
  have Rp := Lib.hid rp
  clear rl rp h1
  go_wp2_with fail
  refine (l04DrawPerm_c w _ cv bs _ _ _ A.length hb h7 (by omega) (by omega)).mono ?_
  rintro e wc ⟨cv', cs, rfl, cl, cp, h8⟩
  have Cl := Lib.hid cl
  have Cp := Lib.hid cp
  clear cl cp h7
  go_wp2_with fail
  refine (l04DrawPerm_c w _ cv bs _ _ _ A.length hb h8 (by omega) (by omega)).mono ?_
  rintro e wd ⟨sv, ss, rfl, sl, sp, h9⟩
  have Sl := Lib.hid sl
  have Sp := Lib.hid sp
  clear sl sp h8
  have hS := h9.st
  go_wp2_with fail
  refine (sIsotopeX_c v rv cv' sv us A rs cs ss _ A.length (hS.oldII hv) (hS.rdI 2 rfl) (hS.rdI 1 rfl) (hS.rdI 0 rfl) hA.sq0 Rp.out Cp.out Sp.out Rl.out Cl.out Sl.out (by omega)).mono ?_
  rintro e wf ⟨vz, uz, rfl, hlz, h11⟩
  rw [isoL_len] at hlz
  have h12 := (hS.call h11).sub (List.sublist_append_right _ _)
  clear h9 hS h11
  go_wp2_with fail
  go_ret
  exact ⟨vz, uz, rs, cs, ss, rfl, Rp.out, Cp.out, Sp.out, Rl.out, Cl.out, Sl.out, hlz, h12⟩
/-! ### maps between rows -/
def rowM (A : List (List Int)) (f t : Nat) : List Int := cmpL (invL (xat A f)) (xat A t)
theorem rowM_len {A : List (List Int)} (hA : Lat A) {f t : Nat} (hf : f < A.length) : (rowM A f t).length = A.length := by unfold rowM; rw [cmpL_len, invL_len, hA.len f hf]
theorem rowM_isP {A : List (List Int)} (hA : Lat A) {f t : Nat} (hf : f < A.length) (ht : t < A.length) : IsP (rowM A f t) := (hA.row f hf).inv.cmp (hA.row t ht) (by rw [invL_len, hA.len f hf, hA.len t ht])
theorem cmpL_iot {n : Nat} {ys : List Int} (h : ys.length = n) : cmpL (iot n) ys = ys :=
  nth_ext (by rw [cmpL_len, iot_len, h]) fun j hj => by
    rw [cmpL_len, iot_len] at hj
    rw [nth_cmpL (by rw [iot_len]; exact hj)]
    unfold pf; rw [nth_iot hj]; rfl
theorem rowM_cmp {A : List (List Int)} (hA : Lat A) {f g t : Nat} (hf : f < A.length) (hg : g < A.length) (ht : t < A.length) : cmpL (rowM A f g) (rowM A g t) = rowM A f t := by
  have l1 := hA.len f hf
  have l2 := hA.len g hg
  have l3 := hA.len t ht
  unfold rowM
  rw [cmpL_assoc (hA.row f hf).inv (by rw [invL_len, l1, l2]), ← cmpL_assoc (ys := invL (xat A g)) (hA.row g hg) (by rw [invL_len]), cmp_inv (hA.row g hg), l2, cmpL_iot l3]
set_option maxHeartbeats 4000000 in
set_option maxRecDepth 100000 in
theorem RowMap_c (v : Value) (us : List Value) (A : List (List Int)) (f t : Nat) (w : World) (hv : RII w v us A) (hA : Lat A) (hf : f < A.length) (ht : t < A.length) :
    Calls Try.prog 22 #[v, .int .i64 f, .int .i64 t] w (MakesC1 w (rowM A f t) 0) := by
  have KV := fun W (h : RII W v us A) => Lib.hid (ValidSquare_c v us A W h (fun x hx => by have := hA.len x hx; have := hA.le; omega))
  rw [latB_yes hA] at KV
  have KZ := fun W (h : RII W v us A) => Lib.hid (szII_c v us A W h)
  have W1 := within_c (f : Int) 0 ((A.length : Int) - 1)
  rw [inB_true (by omega)] at W1
  have W2 := within_c (t : Int) 0 ((A.length : Int) - 1)
  rw [inB_true (by omega)] at W2
  have q1 : IntKind.i64.wrap ((A.length : Int) - 1) = (A.length : Int) - 1 := IntWalk.i64_in _ (by have := hA.le; omega)
  have x1 := hv.ixe (f : Int) f rfl hf
  have x2 := hv.ixe (t : Int) t rfl ht
  have hS0 := St.refl w
  have KI := fun W (h : RII W v us A) => Lib.hid (inverse_c (vat us f) (xat A f) W (h.row f hf) (hA.row f hf) (by rw [hA.len f hf]; have := hA.le; omega))
  have KC := fun vo W (h1 : RdI W vo (invL (xat A f))) (h : RII W v us A) => Lib.hid (compose_c vo (vat us t) (invL (xat A f)) (xat A t) W h1 (h.row t ht) (hA.row f hf).inv (by rw [invL_len, hA.len f hf, hA.len t ht]) (by rw [invL_len, hA.len f hf]; have := hA.le; omega))
  have HA := Lib.hid hA
  clear hA
  go_enter Try.func22, Try.ntmps22
  go_wp2_with (first
    | (go_at_call 32; refine (KV _ hv).out.mono ?_; rintro e wa ⟨rfl, ha⟩; have hSa := hS0.call0 ha)
    | (go_at_call 33; refine (KZ _ (hSa.oldII hv)).out.mono ?_; rintro e wb ⟨rfl, hb⟩; subst hb)
    | (go_at_call_of 49 (Value.int IntKind.i64 (f : Int)); refine (W1 _).mono ?_; rintro e wc ⟨rfl, hc⟩; subst hc)
    | (go_at_call_of 49 (Value.int IntKind.i64 (t : Int)); refine (W2 _).mono ?_; rintro e wc ⟨rfl, hc⟩; subst hc))
  have hSd := hSa.drew
  have c1 := (hSa.oldII hv).cell f hf
  have c2 := (hSa.oldII hv).cell t ht
  clear hS0 ha
  go_region_held3 (fun w' => w'.cell? (el v f) = some (vat us f) ∧ w'.cell? (el v t) = some (vat us t)) (((try dsimp only); (repeat' apply And.intro); all_goals (repeat (first | assumption | exact cell_dr (by assumption) | refine cell_dr ?_ | refine cell_al ?_ | refine cell_sc (by assumption) ?_)))) (first
    | (go_at_call 56; refine (KI _ (hSd.oldII hv)).out.mono ?_; rintro e2 w5 ⟨v5, rfl, h5⟩; have hS5 := hSd.call h5; have hr5 := h5.rdI 0 rfl; have g1 := (hS5.oldII hv).cell f hf; have g2 := (hS5.oldII hv).cell t ht)
    | (have hz := hS5; clear hz; go_at_call 55; refine (KC _ _ hr5 (hS5.oldII hv)).out.mono ?_; rintro e2 w6 ⟨v6, rfl, h6⟩; have hS6 := hS5.call h6; have g1 := (hS6.oldII hv).cell f hf; have g2 := (hS6.oldII hv).cell t ht))
  have hS7 := hS6.sub (List.sublist_append_right _ _)
  clear hS6 hS5 h5 h6 hSd hSa
  go_wp2_with fail
  go_ret2
  exact ⟨v6, rfl, hS7⟩
set_option maxHeartbeats 4000000 in
set_option maxRecDepth 100000 in
theorem l04Times_c (v u : Value) (xs ys : List Int) (w : World) (hv : RdI w v xs) (hu : RdI w u ys) (hp : IsP xs) (hl : xs.length = ys.length) (hN : xs.length ≤ 1000) :
    Calls Try.prog 58 #[v, u] w (MakesI w (cmpL xs ys)) := by
  have hlx := hv.len
  have hix := hv.ixe
  have hiu := hu.ixe
  rw [← hl] at hiu
  have hS0 : St w.heap.size w (w.alloc (.cells #[] 2)) [row 2 (.slice (some ⟨w.heap.size, 0, none⟩) 0 0) (iv ((cmpL xs ys).take 0))] := (St.refl w).new 2 #[] (by simp)
  have HT := fun j (hj : j < xs.length) => Lib.hid (show (cmpL xs ys).take (j + 1) = (cmpL xs ys).take j ++ [nth ys (pf xs j)] by rw [take_nth (by rw [cmpL_len]; exact hj), nth_cmpL hj])
  have HP := fun j (hj : j < xs.length) => Lib.hid (And.intro (nth_pf hp hj) (hp.pf_lt hj))
  have HE := Lib.hid (show (cmpL xs ys).take xs.length = cmpL xs ys by rw [← cmpL_len xs ys, List.take_length])
  have Hul := Lib.hid hl
  clear hl hp
  go_enter Try.func58, Try.ntmps58
  go_wp2_with fail
  go_loopw [5, 6] (fun o i wr => ∃ (j : Nat) (v2 : Value), v2 = o ∧ j ≤ xs.length ∧ i = .int .i64 j ∧ St w.heap.size w wr [row 2 v2 (iv ((cmpL xs ys).take j))]) (fun _ i _ => xs.length - (intOf i).toNat)
  case atStart => exact ⟨0, _, rfl, by omega, rfl, hS0⟩
  case round =>
    clear hS0
    obtain ⟨j, v2, rfl, hj, rfl, hS⟩ := hrel
    by_cases hlt : j < xs.length
    · have hji : (j : Int) < (xs.length : Int) := by omega
      obtain ⟨e1, e2⟩ := (HP j hlt).out
      have c1 := (hS.oldI hv).cell j hlt
      rw [e1] at c1
      have c2 := (hS.oldI hu).cell (pf xs j) (by rw [← Hul.out]; exact e2)
      have x1 := hix (j : Int) j rfl hlt
      have x2 := hiu ((pf xs j : Nat) : Int) (pf xs j) rfl e2
      have HT := HT j hlt
      have hN2 := Lib.hid (show ((cmpL xs ys).take j).length < 4294967296 by rw [List.length_take]; omega)
      generalize pf xs j = k at *
      clear e1
      go_wp2_with (at_builtin; refine appI hS 0 rfl hN2.out rfl _ _ rfl rfl _ rfl ?_; intro v5 w5 hS5; simp only [List.set_cons_zero] at hS5)
      rw [← HT.out] at hS5
      go_roundw
      case rel => exact ⟨j + 1, _, rfl, by omega, by go_num, hS5⟩
      case measure => simp [intOf]; omega
    · obtain rfl : j = xs.length := by omega
      rw [HE.out] at hS
      go_wp2_with fail
      go_ret
      exact ⟨_, rfl, hS⟩
set_option maxHeartbeats 4000000 in
set_option maxRecDepth 100000 in
theorem sCompose_c (v u : Value) (xs ys : List Int) (w : World) (hv : RdI w v xs) (hu : RdI w u ys) (hp : IsP xs) (hq : IsP ys) (hl : xs.length = ys.length) (hN : xs.length ≤ 32) :
    Calls Try.prog 23 #[v, u] w (MakesC1 w (cmpL xs ys) 0) := by
  have hlx := hv.len
  have hlu := hu.len
  rw [← hl] at hlu
  have K1 := fun W (h : RdI W v xs) => Lib.hid (l04Ok_c v xs W h)
  rw [pvB_yes hN hp] at K1
  have K2 := fun W (h : RdI W u ys) => Lib.hid (l04Ok_c u ys W h)
  rw [pvB_yes (by omega) hq] at K2
  have K3 := fun W (h1 : RdI W v xs) (h2 : RdI W u ys) => Lib.hid (l04Times_c v u xs ys W h1 h2 hp hl (by omega))
  have hS0 := St.refl w
  clear hl hp hq
  go_enter Try.func23, Try.ntmps23
  go_wp2_with (first
    | (go_at_call 58; refine (K3 _ (hSb.oldI hv) (hSb.oldI hu)).out.mono ?_; rintro e wc ⟨o, rfl, hc⟩; have hSc := hSb.call hc)
    | (go_at_call_of 57 u; have hz := hSa; clear hz; refine (K2 _ (hSa.oldI hu)).out.mono ?_; rintro e wb ⟨rfl, hb⟩; have hSb := hSa.call0 hb)
    | (go_at_call_of 57 v; refine (K1 _ (hS0.oldI hv)).out.mono ?_; rintro e wa ⟨rfl, ha⟩; have hSa := hS0.call0 ha; clear hS0))
  go_ret2
  exact ⟨o, rfl, hSc⟩
set_option maxHeartbeats 2000000 in
theorem SameSquare_c (va vb : Value) (us ws : List Value) (xs ys : List (List Int)) (w : World) (ha : RII w va us xs) (hb : RII w vb ws ys) :
    Calls Try.prog 21 #[va, vb] w (GivesB w (decide (xs = ys))) := by
  have K := Lib.hid (l06Same_c va vb us ws xs ys w ha hb)
  go_enter Try.func21, Try.ntmps21
  go_wp2_with (go_at_call 54; refine K.out.mono ?_; rintro e w2 ⟨rfl, h2⟩)
  go_ret
  exact ⟨rfl, h2⟩
/-! ### the columns of a symbol -/
/-- where each row holds the symbol -/
def colsL (A : List (List Int)) (s : Int) : List Int := A.map fun r => idxP (fun x => s == x) r 0
theorem colsL_len (A : List (List Int)) (s : Int) : (colsL A s).length = A.length := by simp [colsL]
theorem colsL_take {A : List (List Int)} {s : Int} {k : Nat} (hk : k < A.length) : (colsL A s).take (k + 1) = (colsL A s).take k ++ [idxP (fun x => s == x) (xat A k) 0] := by
  rw [colsL, ← List.map_take, ← List.map_take, take_xat hk, List.map_append]; rfl
theorem idxP_of {xs : List Int} {s : Int} : ∀ {j k : Nat}, k ≤ j → j < xs.length → nth xs j = s → (∀ i, i < xs.length → nth xs i = s → i = j) → idxP (fun x => s == x) xs k = j := by
  intro j k hk hj hs hu
  obtain ⟨d, rfl⟩ : ∃ d, j = k + d := ⟨j - k, by omega⟩
  clear hk
  induction d generalizing k with
  | zero => exact idxP_hit (by omega) (by rw [show nth xs k = s from hs]; simp)
  | succ d ih =>
    rw [idxP_step (by omega) (by
      have : nth xs k ≠ s := fun e => by have := hu k (by omega) e; omega
      simp only [beq_eq_false_iff_ne, ne_eq]; exact fun e => this e.symm)]
    have h2 := ih (k := k + 1) (by omega) (by rw [show k + 1 + d = k + (d + 1) by omega]; exact hs) (fun i hi e => by have := hu i hi e; omega)
    rw [h2]; omega
theorem colsL_at {A : List (List Int)} (hA : Lat A) {s : Int} {x y : Nat} (hx : x < A.length) (hy : y < A.length) (e : at2 A x y = s) : nth (colsL A s) x = y := by
  have hl := hA.len x hx
  rw [show nth (colsL A s) x = idxP (fun z => s == z) (xat A x) 0 by simp [colsL, nth, xat, hx]]
  exact idxP_of (Nat.zero_le _) (by rw [hl]; exact hy) e (fun i hi e2 => hA.rinj hx (by rw [← hl]; exact hi) hy (show at2 A x i = at2 A x y by rw [e]; exact e2))
theorem colsL_ex {A : List (List Int)} (hA : Lat A) {s x : Nat} (hx : x < A.length) (hs : s < A.length) : ∃ y, y < A.length ∧ at2 A x y = s ∧ nth (colsL A s) x = y := by
  obtain ⟨y, hy, e⟩ := hA.ronto hx (s := s) (by omega) (by omega)
  exact ⟨y, hy, e, colsL_at hA hx hy e⟩
theorem colsL_isP {A : List (List Int)} (hA : Lat A) {s : Nat} (hs : s < A.length) : IsP (colsL A s) where
  lt j hj := by
    rw [colsL_len] at hj ⊢
    obtain ⟨y, hy, _, e⟩ := colsL_ex hA hj hs
    omega
  inj i j hi hj e := by
    rw [colsL_len] at hi hj
    obtain ⟨y, hy, e1, e2⟩ := colsL_ex hA hi hs
    obtain ⟨z, hz, e3, e4⟩ := colsL_ex hA hj hs
    have : y = z := by omega
    subst this
    exact hA.cinj hy hi hj (e1.trans e3.symm)
set_option maxHeartbeats 4000000 in
set_option maxRecDepth 100000 in
theorem SymbolColumns_c (v : Value) (us : List Value) (A : List (List Int)) (s : Nat) (w : World) (hv : RII w v us A) (hA : Lat A) (hs : s < A.length) :
    Calls Try.prog 61 #[v, .int .i64 s] w (MakesC1 w (colsL A s) 0) := by
  have KV := fun W (h : RII W v us A) => Lib.hid (ValidSquare_c v us A W h (fun x hx => by have := hA.len x hx; have := hA.le; omega))
  rw [latB_yes hA] at KV
  have KZ := fun W (h : RII W v us A) => Lib.hid (szII_c v us A W h)
  have W1 := within_c (s : Int) 0 ((A.length : Int) - 1)
  rw [inB_true (by omega)] at W1
  have q1 : IntKind.i64.wrap ((A.length : Int) - 1) = (A.length : Int) - 1 := IntWalk.i64_in _ (by have := hA.le; omega)
  have hln := hv.len
  have hix := hv.ixe
  have hS0 := St.refl w
  have hA10 := hA.le
  have HE := Lib.hid (show (colsL A s).take A.length = colsL A s by rw [← colsL_len A s, List.take_length])
  clear hA
  go_enter Try.func61, Try.ntmps61
  go_wp2_with (first
    | (go_at_call 32; refine (KV _ hv).out.mono ?_; rintro e wa ⟨rfl, ha⟩; have hSa := hS0.call0 ha)
    | (go_at_call 33; refine (KZ _ (hSa.oldII hv)).out.mono ?_; rintro e wb ⟨rfl, hb⟩; subst hb)
    | (go_at_call 49; refine (W1 _).mono ?_; rintro e wc ⟨rfl, hc⟩; subst hc))
  have hS1 : St w.heap.size w wa [row 2 (.slice none 0 0) (iv ((colsL A s).take 0))] := hSa.newnil 2
  clear hSa ha hS0
  go_loopw [20, 6, 8] (fun i o _ wr => ∃ (k : Nat) (v2 : Value), v2 = o ∧ k ≤ A.length ∧ i = .int .i64 k ∧ St w.heap.size w wr [row 2 v2 (iv ((colsL A s).take k))]) (fun i _ _ _ => A.length - (intOf i).toNat)
  case atStart => exact ⟨0, _, rfl, by omega, rfl, hS1⟩
  case round =>
    clear hS1
    obtain ⟨k, v2, rfl, hk, rfl, hS⟩ := hrel
    by_cases hlt : k < A.length
    · have hc := (hS.oldII hv).cell k hlt
      have hx := hix (k : Int) k rfl hlt
      have hki : (k : Int) < (A.length : Int) := by omega
      have HT := Lib.hid (colsL_take (A := A) (s := (s : Int)) hlt)
      have hN := Lib.hid (show ((colsL A s).take k).length < 4294967296 by rw [List.length_take, colsL_len]; omega)
      have KX := Lib.hid (Index_c (vat us k) (xat A k) (s : Int) wr ((hS.oldII hv).row k hlt))
      generalize idxP (fun x => (s : Int) == x) (xat A k) 0 = j at *
      go_wp2_with (first
        | (at_builtin; refine appI hS 0 rfl hN.out rfl _ _ rfl rfl _ rfl ?_; intro v5 w5 hS5; simp only [List.set_cons_zero] at hS5)
        | (go_at_call 79; refine KX.out.mono ?_; rintro e2 w4 ⟨rfl, hw4⟩; subst hw4))
      rw [← HT.out] at hS5
      go_roundw
      case rel => exact ⟨k + 1, _, rfl, by omega, by go_num, hS5⟩
      case measure => simp [intOf]; omega
    · obtain rfl : k = A.length := by omega
      rw [HE.out] at hS
      go_wp2_with fail
      go_ret2
      exact ⟨_, rfl, hS⟩
end Go.Proofs.Ytdlmohigkkdegaa
end
