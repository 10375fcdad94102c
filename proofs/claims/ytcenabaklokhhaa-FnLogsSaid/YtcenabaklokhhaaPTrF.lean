/- Traces in a field: additive, and below the prime. -/
import Derived.Test.YtcenabaklokhhaaPTr
namespace Go.Proofs.Ytcenabaklokhhaa
set_option linter.unusedSimpArgs false
set_option linter.unusedVariables false
section
variable {R : Type} [Add R] [Mul R] [Neg R] [Zero R] [One R]
theorem rp_add (H : Rng R) (a : R) (m : Nat) : ∀ k, rp a (m + k) = rp a m * rp a k
  | 0 => (H.mul_one _).symm
  | k + 1 => by
    show rp a (m + k) * a = rp a m * (rp a k * a)
    rw [rp_add H a m k, H.mul_assoc]
theorem rp_rp (H : Rng R) (a : R) (m : Nat) : ∀ k, rp a (m * k) = rp (rp a m) k
  | 0 => rfl
  | k + 1 => by rw [Nat.mul_succ, rp_add H, rp_rp H a m k]; rfl
theorem itF_rp (H : Rng R) (p : Nat) : ∀ (n : Nat) (a : R), itF p a n = rp a (p ^ n)
  | 0, a => (H.one_mul a).symm
  | n + 1, a => by
    show itF p (rp a p) n = _
    rw [itF_rp H p n, ← rp_rp H, Nat.pow_succ, Nat.mul_comm]
omit [Neg R] [Zero R] [One R] in
theorem hr_app (x : R) (v : R) (a b : List R) : hrA x v (a ++ b) = hrA x (hrA x v a) b := by unfold hrA; rw [List.foldl_append]
theorem hr_zeros (H : Rng R) (x : R) : ∀ (k : Nat) (v : R), hrA x v (List.replicate k 0) = v * rp x k
  | 0, v => (H.mul_one v).symm
  | k + 1, v => by
    rw [List.replicate_succ, hrA_cons, hr_zeros H x k, H.add_zero, H.mul_assoc]
    congr 1
    exact H.mul_comm _ _
/-- x^p - x has at most p roots -/
theorem fix_few (H : Rng R) (nzd : ∀ a b : R, a * b = 0 → a = 0 ∨ b = 0) (h10 : (1 : R) ≠ 0) {p : Nat} (hp : 2 ≤ p) {pts : List R} (hn : pts.Nodup) (hf : ∀ x ∈ pts, rp x p = x) : pts.length ≤ p := by
  refine Nat.le_of_not_lt fun hlt => ?_
  have hsub : ∀ x ∈ pts.take (p + 1), rp x p = x := fun x hx => hf x (List.mem_of_mem_take hx)
  have hl : (pts.take (p + 1)).length = p + 1 := by rw [List.length_take]; omega
  refine h10 (poly_zero H nzd (pts.take (p + 1)) (1 :: (List.replicate (p - 2) 0 ++ [-1, 0])) ?_ (List.Nodup.sublist (List.take_sublist _ _) hn) (fun x hx => ?_) 1 (by simp))
  · rw [hl]; simp; omega
  · rw [hr_lead H, hr_app, hr_zeros H, H.one_mul]
    show (rp x (p - 2) * x + -1) * x + 0 = 0
    have e : rp x p = rp x (p - 2) * x * x := by
      obtain ⟨k, rfl⟩ := Nat.exists_eq_add_of_le' hp
      rfl
    rw [H.add_zero, H.add_mul, ← e, hsub x hx, H.neg_mul, H.one_mul, H.add_neg]
end
section
variable {p : Int} {D : Nat} {fs : List Int} {h : FV p D fs}
theorem nm_dc (n : Nat) (a : Fe h) {i : Nat} (hi : i < D) : dc p D (nm n a).1 i = n * dc p D a.1 i % p := by
  have hp := h.fa.pos
  induction n with
  | zero =>
    show dc p D 0 i = _
    rw [dc_zero]; simp
  | succ n ih =>
    show dc p D (fsum p D (nm n a).1 a.1 1) i = _
    rw [dc_fsum hp hi, ih, Int.one_mul, Int.emod_add_emod]
    congr 1
    push_cast; rw [Int.add_mul, Int.one_mul]
theorem p_nat (h : FV p D fs) : ((p.toNat : Nat) : Int) = p := Int.toNat_of_nonneg (by have := h.p2; omega)
theorem nm_p (a : Fe h) : nm p.toNat a = 0 := by
  have hp := h.fa.pos
  refine fe_ext ((nm p.toNat a).2.ext hp (el_zero h.fa) fun i hi => ?_)
  have e := nm_dc p.toNat a hi
  rw [p_nat h, Int.mul_emod_right] at e
  show dc p D (nm p.toNat a).1 i = dc p D 0 i
  rw [dc_zero]; exact e
theorem fe_inv (a : Fe h) (h0 : a ≠ 0) : ∃ b : Fe h, a * b = 1 := by
  have hne : a.1 ≠ 0 := fun e => h0 (fe_ext e)
  obtain ⟨b, hb, e⟩ := h.inv (by have := a.2.1; omega) a.2.2
  exact ⟨⟨b, hb⟩, fe_ext e⟩
theorem fe_frob (a b : Fe h) : rp (a + b) p.toNat = rp a p.toNat + rp b p.toNat := by
  have := h.p2
  have := h.p64
  exact frob (fe_rng h) fe_inv (by rw [p_nat h]; exact h.pr) (by omega) (by omega) nm_p a b
theorem em_pw {a : Int} (ha : El p D a) : ∀ n, em h (pw p D fs a n) = rp (em h a) n
  | 0 => em_1
  | n + 1 => by rw [pw, em_mul (pw_el h.fa a n) ha, em_pw ha n]; rfl
/-- the trace -/
def trF (p : Int) (D : Nat) (fs : List Int) : Nat → Int → Int → Int
  | 0, s, _ => s
  | n + 1, s, a => trF p D fs n (fsum p D s a 1) (pw p D fs a p.toNat)
theorem trF_el (h : FV p D fs) : ∀ (n : Nat) {s : Int} (a : Int), El p D s → El p D (trF p D fs n s a)
  | 0, _, _, hs => hs
  | n + 1, _, _, _ => trF_el h n _ (fsum_el h.fa.pos _ _ _)
theorem em_tr : ∀ (n : Nat) {s a : Int}, El p D s → El p D a → em h (trF p D fs n s a) = trR p.toNat n (em h s) (em h a)
  | 0, _, _, _, _ => rfl
  | n + 1, s, a, hs, ha => by
    rw [trF, em_tr n (fsum_el h.fa.pos _ _ _) (pw_el h.fa _ _), em_add hs ha, em_pw ha]; rfl
theorem trF_add (h : FV p D fs) {a b : Int} (ha : El p D a) (hb : El p D b) (n : Nat) : trF p D fs n 0 (fsum p D a b 1) = fsum p D (trF p D fs n 0 a) (trF p D fs n 0 b) 1 := by
  have H := fe_rng h
  have h0 := el_zero h.fa
  refine em_inj (h := h) (trF_el h n _ h0) (fsum_el h.fa.pos _ _ _) ?_
  rw [em_tr n h0 (fsum_el h.fa.pos _ _ _), em_add (trF_el h n _ h0) (trF_el h n _ h0), em_tr n h0 ha, em_tr n h0 hb, em_add ha hb, ← trR_add H fe_frob, em_0, H.add_zero]
theorem nm_fix : ∀ n, rp (nm n (1 : Fe h)) p.toNat = nm n 1
  | 0 => rp_zero (fe_rng h) (by have := h.p2; omega)
  | n + 1 => by
    have H := fe_rng h
    have e1 : ∀ k, rp (1 : Fe h) k = 1 := fun k => by
      induction k with
      | zero => rfl
      | succ k ih => show rp 1 k * 1 = (1 : Fe h); rw [ih, H.one_mul]
    show rp (nm n 1 + 1) _ = nm n 1 + (1 : Fe h)
    rw [fe_frob, nm_fix n, e1]
/-- numbers below p have one digit -/
theorem nm_one (h : FV p D fs) {n : Nat} (hn : (n : Int) < p) : (nm n (1 : Fe h)).1 = n := by
  have hfa := h.fa
  have hp := hfa.pos
  induction n with
  | zero => rfl
  | succ n ih =>
    have hD := hfa.D1
    have hle := le_pow h.p2 (m := D) hD
    refine (nm (n + 1) (1 : Fe h)).2.ext hp ⟨by omega, by omega⟩ fun i hi => ?_
    rw [nm_dc _ _ hi, fe_1, dc_one hfa hi]
    obtain ⟨E, rfl⟩ := Nat.exists_eq_add_of_le' hD
    unfold dc
    cases i with
    | zero => simp [dgt, cf]
    | succ i =>
      have e : dgt p (E + 1) ((n + 1 : Nat) : Int) = ((n + 1 : Nat) : Int) % p :: dgt p E 0 := by
        rw [dgt, Int.ediv_eq_zero_of_lt (by omega) hn]
      rw [e]
      have := dc_zero (p := p) (D := E) i
      unfold dc cf at this
      unfold cf
      rw [List.getD_cons_succ, this]; simp
/-- what the p-th power leaves as it is lies below p -/
theorem fix_lt {t : Fe h} (ht : rp t p.toNat = t) : t.1 < p := by
  have H := fe_rng h
  have h2 := h.p2
  refine Int.lt_of_not_ge fun hge => ?_
  have hnd : (t :: (List.range p.toNat).map fun i => nm i (1 : Fe h)).Nodup := by
    refine List.nodup_cons.2 ⟨fun hm => ?_, ?_⟩
    · obtain ⟨i, hi, e⟩ := List.mem_map.1 hm
      have hi := List.mem_range.1 hi
      have := congrArg Subtype.val e
      rw [nm_one h (by omega)] at this
      omega
    · rw [List.nodup_iff_pairwise_ne, List.pairwise_iff_getElem]
      intro a b ha hb hab
      simp only [List.length_map, List.length_range] at ha hb
      simp only [List.getElem_map, List.getElem_range]
      intro e
      have := congrArg Subtype.val e
      rw [nm_one h (by omega), nm_one h (by omega)] at this
      omega
  have := fix_few H fe_nzd (fun e => by have := congrArg Subtype.val e; rw [fe_1, fe_0] at this; omega) (p := p.toNat) (by omega) hnd (fun x hx => by
    rcases List.mem_cons.1 hx with rfl | hx
    · exact ht
    · obtain ⟨i, _, rfl⟩ := List.mem_map.1 hx
      exact nm_fix i)
  simp at this
  omega
/-- the trace lies below p -/
theorem trF_lt (h : FV p D fs) {a : Int} (ha : El p D a) : 0 ≤ trF p D fs D 0 a ∧ trF p D fs D 0 a < p := by
  have H := fe_rng h
  have h0 := el_zero h.fa
  have hel := trF_el h D a h0
  refine ⟨hel.1, ?_⟩
  have h2 := h.p2
  have hq := pw_q h ha
  have hn : q1 p D + 1 = p.toNat ^ D := by
    have e := q1_cast h
    have : ((p.toNat ^ D : Nat) : Int) = p ^ D := by rw [Int.natCast_pow, p_nat h]
    omega
  rw [hn] at hq
  have hit : itF p.toNat (em h a) D = em h a := by rw [itF_rp H, ← em_pw ha, hq]
  have := fix_lt (t := em h (trF p D fs D 0 a)) (by
    rw [em_tr D h0 ha, em_0]
    exact trR_fix H (by omega) fe_frob hit)
  rwa [em_val hel] at this
/-- sums below p -/
theorem fsum_small (h : FV p D fs) {a b : Int} (ha0 : 0 ≤ a) (ha : a < p) (hb0 : 0 ≤ b) (hb : b < p) : fsum p D a b 1 = (a + b) % p := by
  have H := fe_rng h
  have h2 := h.p2
  have hp := h.fa.pos
  obtain ⟨m, rfl⟩ := Int.eq_ofNat_of_zero_le ha0
  obtain ⟨n, rfl⟩ := Int.eq_ofNat_of_zero_le hb0
  have e1 := nm_one h ha
  have e2 := nm_one h hb
  have e3 : nm (m + n) (1 : Fe h) = nm m 1 + nm n 1 := nm_add H m 1 n
  have e4 : (nm (m + n) (1 : Fe h)).1 = fsum p D m n 1 := by rw [e3, fe_add, e1, e2]
  rw [← e4]
  have e5 : nm (m + n) (1 : Fe h) = nm ((m + n) % p.toNat) 1 := by
    conv => lhs; rw [← Nat.div_add_mod (m + n) p.toNat]
    rw [nm_add H, nm_dvd H (nm_p 1), H.zero_add]
  have hpn := p_nat h
  have hlt : (m + n) % p.toNat < p.toNat := Nat.mod_lt _ (by omega)
  rw [e5, nm_one h (by omega), Int.natCast_emod, hpn]; push_cast; rfl
/-- the trace of a sum -/
theorem trF_law (h : FV p D fs) {a b : Int} (ha : El p D a) (hb : El p D b) : trF p D fs D 0 (fsum p D a b 1) = (trF p D fs D 0 a + trF p D fs D 0 b) % p := by
  have h1 := trF_lt h ha
  have h2 := trF_lt h hb
  rw [trF_add h ha hb, fsum_small h h1.1 h1.2 h2.1 h2.2]
end
end Go.Proofs.Ytcenabaklokhhaa
