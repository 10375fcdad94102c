/- Polynomials over a field: t coefficients are fixed by t values, one of which may be the leading coefficient. -/
import Derived.Test.YtcenabaklokhhaaPDm
import Derived.Test.YtcenabaklokhhaaPFok
namespace Go.Proofs.Ytcenabaklokhhaa
set_option linter.unusedSimpArgs false
set_option linter.unusedVariables false
section
variable {R : Type} [Add R] [Mul R]
def hrA (x v : R) (cs : List R) : R := cs.foldl (fun v c => v * x + c) v
theorem hrA_cons (x v c : R) (cs : List R) : hrA x v (c :: cs) = hrA x (v * x + c) cs := rfl
/-- the quotient by x - r -/
def dvL (r v : R) : List R → List R
  | [] => []
  | c :: cs => v :: dvL r (v * r + c) cs
theorem dvL_len (r : R) : ∀ (v : R) (cs : List R), (dvL r v cs).length = cs.length
  | _, [] => rfl
  | v, c :: cs => by simp [dvL, dvL_len r _ cs]
end
section
variable {R : Type} [Add R] [Mul R] [Neg R] [Zero R] [One R]
theorem hr_div (H : Rng R) (x r : R) : ∀ (cs : List R) (u v : R), hrA x ((x + -r) * u + v) cs = (x + -r) * hrA x u (dvL r v cs) + hrA r v cs
  | [], u, v => rfl
  | c :: cs, u, v => by
    have e1 : (x + -r) * v + v * r = v * x := by rw [H.add_mul, H.neg_mul, H.add_assoc, H.mul_comm r v, H.neg_add, H.add_zero, H.mul_comm]
    have e : ((x + -r) * u + v) * x + c = (x + -r) * (u * x + v) + (v * r + c) := by
      rw [H.add_mul, H.mul_assoc, H.mul_add, H.add_assoc, H.add_assoc]
      congr 1
      rw [← e1, H.add_assoc]
    rw [hrA_cons, e, hr_div H x r cs, hrA_cons, dvL, hrA_cons]
theorem dv_zero (H : Rng R) (r : R) : ∀ (cs : List R) (v : R), (∀ y ∈ dvL r v cs, y = 0) → hrA r v cs = 0 → v = 0 ∧ ∀ c ∈ cs, c = 0
  | [], v, _, h => ⟨h, by simp⟩
  | c :: cs, v, hd, h => by
    have hv : v = 0 := hd v (by simp [dvL])
    have ih := dv_zero H r cs (v * r + c) (fun y hy => hd y (by simp [dvL, hy])) h
    rw [hv, H.zero_mul, H.zero_add] at ih
    refine ⟨hv, fun y hy => ?_⟩
    rcases List.mem_cons.1 hy with rfl | hy
    · exact ih.1
    · exact ih.2 y hy
theorem hr_lead (H : Rng R) (x c : R) (cs : List R) : hrA x 0 (c :: cs) = hrA x c cs := by rw [hrA_cons, H.zero_mul, H.zero_add]
/-- as many roots as coefficients: all coefficients are 0 -/
theorem poly_zero (H : Rng R) (nzd : ∀ a b : R, a * b = 0 → a = 0 ∨ b = 0) : ∀ (pts cs : List R), cs.length = pts.length → pts.Nodup → (∀ x ∈ pts, hrA x 0 cs = 0) → ∀ c ∈ cs, c = 0
  | [], cs, hl, _, _ => by
    have : cs = [] := List.eq_nil_of_length_eq_zero (by simpa using hl)
    subst this; simp
  | r :: pts, [], hl, _, _ => by simp at hl
  | r :: pts, c :: cs, hl, hn, hz => by
    have hr : hrA r c cs = 0 := by rw [← hr_lead H]; exact hz r (by simp)
    obtain ⟨hr1, hn2⟩ := List.nodup_cons.1 hn
    have ih := poly_zero H nzd pts (dvL r c cs) (by rw [dvL_len]; simpa using hl) hn2 fun x hx => by
      have h1 : hrA x c cs = 0 := by rw [← hr_lead H]; exact hz x (by simp [hx])
      have h2 := hr_div H x r cs 0 c
      rw [H.mul_zero, H.zero_add, h1, hr, H.add_zero] at h2
      rcases nzd _ _ h2.symm with e | e
      · refine absurd ?_ hr1
        have : x = r := by
          have e2 := H.neg_eq e
          have e3 := congrArg (fun y => -y) e2
          simp only [H.neg_neg] at e3
          exact e3.symm
        rw [← this]; exact hx
      · exact e
    have := dv_zero H r cs c ih hr
    intro y hy
    rcases List.mem_cons.1 hy with rfl | hy
    · exact this.1
    · exact this.2 y hy
theorem hr_sub (H : Rng R) (x : R) : ∀ (a b : List R) (v w : R), a.length = b.length → hrA x (v + -w) (List.zipWith (fun c d => c + -d) a b) = hrA x v a + -hrA x w b
  | [], [], v, w, _ => rfl
  | c :: a, d :: b, v, w, hl => by
    have e : (v + -w) * x + (c + -d) = (v * x + c) + -(w * x + d) := by
      rw [H.add_mul, H.neg_mul, H.neg_sum, H.swap4]
    rw [List.zipWith_cons_cons, hrA_cons, hrA_cons, hrA_cons, e, hr_sub H x a b _ _ (by simpa using hl)]
  | [], _ :: _, _, _, hl => by simp at hl
  | _ :: _, [], _, _, hl => by simp at hl
theorem zip_zero (H : Rng R) : ∀ (a b : List R), a.length = b.length → (∀ y ∈ List.zipWith (fun c d => c + -d) a b, y = 0) → a = b
  | [], [], _, _ => rfl
  | c :: a, d :: b, hl, hz => by
    have h1 : c + -d = 0 := hz _ (by simp)
    have h2 := zip_zero H a b (by simpa using hl) fun y hy => hz y (by simp [hy])
    have : c = d := by
      have e2 := H.neg_eq h1
      have e3 := congrArg (fun y => -y) e2
      simp only [H.neg_neg] at e3
      exact e3.symm
    rw [this, h2]
  | [], _ :: _, hl, _ => by simp at hl
  | _ :: _, [], hl, _ => by simp at hl
theorem poly_inj (H : Rng R) (nzd : ∀ a b : R, a * b = 0 → a = 0 ∨ b = 0) {pts a b : List R} (ha : a.length = pts.length) (hb : b.length = pts.length) (hn : pts.Nodup) (he : ∀ x ∈ pts, hrA x 0 a = hrA x 0 b) : a = b := by
  refine zip_zero H a b (by rw [ha, hb]) (poly_zero H nzd pts _ (by simp [ha, hb]) hn fun x hx => ?_)
  have := hr_sub H x a b 0 0 (by rw [ha, hb])
  rw [H.neg_zero, H.zero_add] at this
  rw [this, he x hx, H.add_neg]
/-- the leading coefficient and the other values -/
theorem poly_injL (H : Rng R) (nzd : ∀ a b : R, a * b = 0 → a = 0 ∨ b = 0) {pts a b : List R} {c : R} (ha : a.length = pts.length) (hb : b.length = pts.length) (hn : pts.Nodup) (he : ∀ x ∈ pts, hrA x 0 (c :: a) = hrA x 0 (c :: b)) : a = b := by
  refine zip_zero H a b (by rw [ha, hb]) (poly_zero H nzd pts _ (by simp [ha, hb]) hn fun x hx => ?_)
  have h1 := hr_sub H x a b c c (by rw [ha, hb])
  rw [H.add_neg] at h1
  rw [h1, ← hr_lead H x c a, ← hr_lead H x c b, he x hx, H.add_neg]
end
section
variable {p : Int} {D : Nat} {fs : List Int} {h : FV p D fs}
theorem fe_nzd (a b : Fe h) (e : a * b = 0) : a = 0 ∨ b = 0 := by
  rcases h.nzd a.2 b.2 (congrArg Subtype.val e) with e | e
  · exact .inl (fe_ext e)
  · exact .inr (fe_ext e)
theorem em_hor {x : Int} (hx : El p D x) : ∀ (cs : List Int) (v : Int), El p D v → (∀ c ∈ cs, El p D c) → em h (cs.foldl (fun v c => fsum p D (fmul p D fs v x) c 1) v) = hrA (em h x) (em h v) (cs.map (em h))
  | [], _, _, _ => rfl
  | c :: cs, v, hv, hc => by
    have hc0 := hc c (by simp)
    rw [List.foldl_cons, em_hor hx cs _ (fsum_el h.fa.pos _ _ _) (fun y hy => hc y (by simp [hy])), em_add (fmul_el h.fa _ _) hc0, em_mul hv hx, List.map_cons, hrA_cons]
theorem em_hor0 {x : Int} (hx : El p D x) {cs : List Int} (hc : ∀ c ∈ cs, El p D c) : em h (hor p D fs x cs) = hrA (em h x) 0 (cs.map (em h)) := by
  have := em_hor (h := h) hx cs 0 (el_zero h.fa) hc
  rwa [em_0] at this
theorem map_em_inj : ∀ {a b : List Int}, (∀ c ∈ a, El p D c) → (∀ c ∈ b, El p D c) → a.map (em h) = b.map (em h) → a = b
  | [], [], _, _, _ => rfl
  | c :: a, d :: b, ha, hb, e => by
    simp only [List.map_cons, List.cons.injEq] at e
    rw [em_inj (h := h) (ha c (by simp)) (hb d (by simp)) e.1, map_em_inj (fun y hy => ha y (by simp [hy])) (fun y hy => hb y (by simp [hy])) e.2]
  | [], _ :: _, _, _, e => by simp at e
  | _ :: _, [], _, _, e => by simp at e
theorem nodup_em {pts : List Int} (hp : ∀ x ∈ pts, El p D x) (hn : pts.Nodup) : (pts.map (em h)).Nodup := by
  induction pts with
  | nil => simp
  | cons x r ih =>
    obtain ⟨h1, h2⟩ := List.nodup_cons.1 hn
    rw [List.map_cons, List.nodup_cons]
    refine ⟨fun hm => ?_, ih (fun y hy => hp y (by simp [hy])) h2⟩
    obtain ⟨y, hy, e⟩ := List.mem_map.1 hm
    rw [em_inj (h := h) (hp y (by simp [hy])) (hp x (by simp)) e] at hy
    exact h1 hy
/-- t values fix t coefficients -/
theorem hor_inj (h : FV p D fs) {pts a b : List Int} (hp : ∀ x ∈ pts, El p D x) (hn : pts.Nodup) (ha : ∀ c ∈ a, El p D c) (hb : ∀ c ∈ b, El p D c) (la : a.length = pts.length) (lb : b.length = pts.length)
    (he : ∀ x ∈ pts, hor p D fs x a = hor p D fs x b) : a = b :=
  map_em_inj (h := h) ha hb (poly_inj (fe_rng h) fe_nzd (pts := pts.map (em h)) (by simp [la]) (by simp [lb]) (nodup_em hp hn) fun x hx => by
    obtain ⟨y, hy, rfl⟩ := List.mem_map.1 hx
    rw [← em_hor0 (hp y hy) ha, ← em_hor0 (hp y hy) hb, he y hy])
theorem hor_injL (h : FV p D fs) {pts a b : List Int} {c : Int} (hp : ∀ x ∈ pts, El p D x) (hn : pts.Nodup) (hc : El p D c) (ha : ∀ c ∈ a, El p D c) (hb : ∀ c ∈ b, El p D c) (la : a.length = pts.length) (lb : b.length = pts.length)
    (he : ∀ x ∈ pts, hor p D fs x (c :: a) = hor p D fs x (c :: b)) : a = b :=
  map_em_inj (h := h) ha hb (poly_injL (fe_rng h) fe_nzd (pts := pts.map (em h)) (c := em h c) (by simp [la]) (by simp [lb]) (nodup_em hp hn) fun x hx => by
    obtain ⟨y, hy, rfl⟩ := List.mem_map.1 hx
    have h1 := em_hor0 (h := h) (hp y hy) (cs := c :: a) (fun z hz => by
      rcases List.mem_cons.1 hz with rfl | hz
      · exact hc
      · exact ha z hz)
    have h2 := em_hor0 (h := h) (hp y hy) (cs := c :: b) (fun z hz => by
      rcases List.mem_cons.1 hz with rfl | hz
      · exact hc
      · exact hb z hz)
    rw [List.map_cons] at h1 h2
    rw [← h1, ← h2, he y hy])
theorem hor_el (h : FV p D fs) (x : Int) {cs : List Int} : El p D (hor p D fs x cs) := by
  rcases List.eq_nil_or_concat cs with e | ⟨l, a, e⟩
  · rw [e]; exact el_zero h.fa
  · rw [e, List.concat_eq_append, hor_snoc]; exact fsum_el h.fa.pos _ _ _
end
end Go.Proofs.Ytcenabaklokhhaa
