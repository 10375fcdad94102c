/- The texts of this claim, run 4: PRR PRr PPm Srt PIm PRs CF Sq Cmp Mk Ds0. -/
import Derived.Test.YtgflhgkcmfjkgaaK1
import Derived.Test.YtgflhgkcmfjkgaaK2
import Derived.Test.YtgflhgkcmfjkgaaK3
import Derived.Shelf.SortM.Plain
import Derived.Shelf.SortM.SortNone
import Derived.Sort.OwnSortedInts
import Derived.Deep.RegionHeld3
import Derived.Deep.DrawnRows
import Derived.Shelf.SlSortCmp.NoneTotal
section
/- Plain: schedules of rounds of pairs: what a valid one is, opponents. -/
namespace Go.Proofs.Ytgflhgkcmfjkgaa
set_option linter.unusedSimpArgs false
set_option linter.unusedVariables false

def gdP (n : Int) (p : List Int) : Bool := decide (p.length = 2) && decide (nth p 0 < nth p 1) && inB (nth p 0) 0 (n - 1) && inB (nth p 1) 0 (n - 1)
/-- whether a team plays in some of these pairs -/
def plB (q : List (List Int)) (x : Int) : Bool := q.any fun p => decide (x ∈ p)
/-- the pairs ahead of place k of round r -/
def seen (R : List (List (List Int))) (r k : Nat) : List (List Int) := (R.take r).flatten ++ (x3at R r).take k
section
variable {R : List (List (List Int))} {r k : Nat}
theorem seen_00 : seen R 0 0 = [] := by simp [seen]
theorem seen_snoc (hk : k < (x3at R r).length) : seen R r (k + 1) = seen R r k ++ [xat (x3at R r) k] := by
  rw [seen, take_xat hk, ← List.append_assoc]; rfl
theorem seen_next (hr : r < R.length) : seen R (r + 1) 0 = seen R r (x3at R r).length := by
  rw [seen, take_x3at hr]; simp [seen]
theorem seen_end : seen R R.length 0 = R.flatten := by simp [seen]
theorem seen_pre (hr : r < R.length) (hk : k ≤ (x3at R r).length) : R.flatten = seen R r k ++ ((x3at R r).drop k ++ (R.drop (r + 1)).flatten) := by
  rw [seen, List.append_assoc, ← List.append_assoc ((x3at R r).take k), List.take_append_drop, ← List.flatten_cons, ← drop_x3at hr, ← List.flatten_append, List.take_append_drop]
theorem x3at_mem (hr : r < R.length) : x3at R r ∈ R := by rw [x3at_eq hr]; exact List.getElem_mem hr
theorem mem_x3at {q : List (List Int)} (h : q ∈ R) : ∃ r, r < R.length ∧ x3at R r = q := by
  obtain ⟨r, hr, e⟩ := List.getElem_of_mem h
  exact ⟨r, hr, by rw [x3at_eq hr, e]⟩
end
theorem mem_xat {A : List (List Int)} {p : List Int} (h : p ∈ A) : ∃ k, k < A.length ∧ xat A k = p := by
  obtain ⟨k, hk, e⟩ := List.getElem_of_mem h
  exact ⟨k, hk, by rw [xat_eq hk, e]⟩
/-- what is asked of a pair -/
def okAt (n : Int) (R : List (List (List Int))) (r k : Nat) : Bool :=
  gdP n (xat (x3at R r) k) && (decide (k = 0) || decide (cmpI (xat (x3at R r) (k - 1)) (xat (x3at R r) k) < 0)) &&
  !plB ((x3at R r).take k) (nth (xat (x3at R r) k) 0) && !plB ((x3at R r).take k) (nth (xat (x3at R r) k) 1) && !decide (xat (x3at R r) k ∈ seen R r k)
def vsB (n : Int) (R : List (List (List Int))) : Bool :=
  inB n 2 32 && ((List.range R.length).all fun r => (List.range (x3at R r).length).all fun k => okAt n R r k) &&
  ((List.range n.toNat).all fun a => (List.range n.toNat).all fun b => decide (b ≤ a) || decide ([(a : Int), (b : Int)] ∈ R.flatten))
structure VS (n : Nat) (R : List (List (List Int))) : Prop where
  n2 : 2 ≤ n
  n32 : n ≤ 32
  gd : ∀ q ∈ R, ∀ p ∈ q, gdP n p = true
  st : ∀ q ∈ R, ∀ k, k + 1 < q.length → cmpI (xat q k) (xat q (k + 1)) < 0
  dj : ∀ q ∈ R, ∀ k, k < q.length → ∀ j, j < k → ∀ x ∈ xat q j, x ∉ xat q k
  nd : R.flatten.Nodup
  al : ∀ a b : Nat, a < b → b < n → [(a : Int), (b : Int)] ∈ R.flatten
structure GdP (n : Int) (p : List Int) : Prop where
  eq : p = [nth p 0, nth p 1]
  lt : nth p 0 < nth p 1
  lo : 0 ≤ nth p 0
  hi : nth p 1 ≤ n - 1
theorem gdP_t {n : Int} {p : List Int} (h : gdP n p = true) : GdP n p := by
  simp only [gdP, Bool.and_eq_true, decide_eq_true_eq, inB] at h
  obtain ⟨⟨⟨h1, h2⟩, h3⟩, h4⟩ := h
  match p, h1 with
  | [a, b], _ => exact ⟨rfl, h2, h3.1, h4.2⟩
theorem plB_f {q : List (List Int)} {x : Int} : plB q x = false ↔ ∀ p ∈ q, x ∉ p := by simp [plB]
theorem mem_take_xat {q : List (List Int)} {k : Nat} {p : List Int} (h : p ∈ q.take k) : ∃ j, j < k ∧ j < q.length ∧ xat q j = p := by
  obtain ⟨j, hj, e⟩ := mem_xat h
  simp only [List.length_take] at hj
  refine ⟨j, by omega, by omega, ?_⟩
  rw [← e, xat_eq (by omega), xat_eq (by simp; omega), List.getElem_take]
theorem VS.ok {n : Nat} {R : List (List (List Int))} (h : VS n R) {r k : Nat} (hr : r < R.length) (hk : k < (x3at R r).length) : okAt n R r k = true := by
  have hq := x3at_mem hr
  have hp := xat_mem hk
  have hg := h.gd _ hq _ hp
  have hG := gdP_t hg
  have h1 : ∀ x ∈ xat (x3at R r) k, plB ((x3at R r).take k) x = false := fun x hx => plB_f.2 fun p hp' hx' => by
    obtain ⟨j, hj, hj2, rfl⟩ := mem_take_xat hp'
    exact h.dj _ hq k hk j hj x hx' hx
  have h2 : xat (x3at R r) k ∉ seen R r k := by
    have := h.nd
    rw [seen_pre hr (Nat.succ_le_of_lt hk), seen_snoc hk, List.append_assoc] at this
    have := (List.nodup_append.1 this).2.2
    intro hm
    exact this _ hm _ (by simp) rfl
  have e0 : nth (xat (x3at R r) k) 0 ∈ xat (x3at R r) k := by rw [hG.eq]; simp [nth]
  have e1 : nth (xat (x3at R r) k) 1 ∈ xat (x3at R r) k := by rw [hG.eq]; simp [nth]
  simp only [okAt, Bool.and_eq_true, hg, h1 _ e0, h1 _ e1, decide_eq_false h2, Bool.not_false, and_true, true_and, Bool.or_eq_true, decide_eq_true_eq]
  cases k with
  | zero => exact .inl rfl
  | succ k => exact .inr (h.st _ hq k hk)
theorem VS.t {n : Nat} {R : List (List (List Int))} (h : VS n R) : vsB n R = true := by
  have h1 := h.n2
  have h2 := h.n32
  simp only [vsB, Bool.and_eq_true, List.all_eq_true, List.mem_range, Bool.or_eq_true, decide_eq_true_eq]
  refine ⟨⟨inB_true (by omega), fun r hr k hk => h.ok hr hk⟩, fun a ha b hb => ?_⟩
  by_cases hab : b ≤ a
  · exact .inl hab
  · exact .inr (h.al a b (by omega) (by omega))
/-! ### opponents -/
def prL (a b : Int) : List Int := if b < a then [b, a] else [a, b]
def opS (t : Int) (o : Int) (p : List Int) : Int := if t ∈ p then nth p 0 + nth p 1 - t else o
def opF (t : Int) (q : List (List Int)) : Int := q.foldl (opS t) (-1)
theorem opS_no {t : Int} : ∀ {q : List (List Int)} {o : Int}, (∀ p ∈ q, t ∉ p) → q.foldl (opS t) o = o
  | [], _, _ => rfl
  | p :: q, o, h => by
    rw [List.foldl_cons, opS, if_neg (h p (by simp))]
    exact opS_no fun p hp => h p (by simp [hp])
theorem opF_at {t : Int} {q : List (List Int)} {k : Nat} (hk : k < q.length) (ht : t ∈ xat q k) (hn : ∀ j, k < j → j < q.length → t ∉ xat q j) : opF t q = nth (xat q k) 0 + nth (xat q k) 1 - t := by
  have e : q = q.take k ++ xat q k :: q.drop (k + 1) := by rw [← drop_xat hk, List.take_append_drop]
  rw [opF]
  conv => lhs; rw [e]
  rw [List.foldl_append, List.foldl_cons, opS_no, opS, if_pos ht]
  intro p hp
  obtain ⟨j, hj, rfl⟩ := mem_xat hp
  rw [List.length_drop] at hj
  rw [show xat (q.drop (k + 1)) j = xat q (k + 1 + j) by rw [xat_eq (by simp; omega), xat_eq (by omega), List.getElem_drop]]
  exact hn _ (by omega) (by omega)
section
variable {n : Nat} {R : List (List (List Int))}
theorem VS.op_iff (h : VS n R) {q : List (List Int)} (hq : q ∈ R) {t x : Nat} (hne : t ≠ x) : opF t q = x ↔ prL t x ∈ q := by
  constructor
  · intro he
    by_cases hex : ∃ p ∈ q, (t : Int) ∈ p
    · obtain ⟨p, hp, ht⟩ := hex
      obtain ⟨k, hk, rfl⟩ := mem_xat hp
      rw [opF_at hk ht (fun j hj hjq hm => h.dj q hq j hjq k hj _ ht hm)] at he
      have hG := gdP_t (h.gd q hq _ hp)
      have hl := hG.lt
      have : prL t x = xat q k := by
        rw [hG.eq] at ht ⊢
        simp only [List.mem_cons, List.not_mem_nil, or_false] at ht
        rw [prL]
        rcases ht with e | e
        · rw [← e] at he hl ⊢
          rw [show nth (xat q k) 1 = (x : Int) by omega] at hl ⊢
          rw [if_neg (by omega)]
        · rw [← e] at he hl ⊢
          rw [show nth (xat q k) 0 = (x : Int) by omega] at hl ⊢
          rw [if_pos (by omega)]
      rw [this]; exact hp
    · exfalso
      rw [opF, opS_no fun p hp ht => hex ⟨p, hp, ht⟩] at he
      omega
  · intro hp
    obtain ⟨k, hk, e⟩ := mem_xat hp
    have ht : (t : Int) ∈ xat q k := by rw [e, prL]; split <;> simp
    rw [opF_at hk ht (fun j hj hjq hm => h.dj q hq j hjq k hj _ ht hm), e, prL]
    split <;> simp [nth] <;> omega
theorem cnt_one {p : List Int} : ∀ {R : List (List (List Int))}, R.flatten.Nodup → p ∈ R.flatten → R.countP (fun q => decide (p ∈ q)) = 1
  | [], _, h => by simp at h
  | q :: R, hn, h => by
    rw [List.flatten_cons] at hn h
    obtain ⟨h1, h2, h3⟩ := List.nodup_append.1 hn
    by_cases hp : p ∈ q
    · rw [List.countP_cons_of_pos (by simpa using hp)]
      have : R.countP (fun q => decide (p ∈ q)) = 0 := by
        rw [List.countP_eq_zero]
        intro q' hq' hm
        exact h3 p hp p (List.mem_flatten.2 ⟨q', hq', by simpa using hm⟩) rfl
      omega
    · rw [List.countP_cons_of_neg (by simpa using hp)]
      exact cnt_one h2 ((List.mem_append.1 h).resolve_left hp)
def oppL (t : Int) (R : List (List (List Int))) : List Int := R.map (opF t)
theorem VS.al' (h : VS n R) {t x : Nat} (ht : t < n) (hx : x < n) (hne : t ≠ x) : prL t x ∈ R.flatten := by
  rw [prL]
  split
  · exact h.al x t (by omega) ht
  · exact h.al t x (by omega) hx
theorem VS.once (h : VS n R) {t x : Nat} (ht : t < n) (hx : x < n) (hne : t ≠ x) : (oppL t R).countP (fun o => decide (o = (x : Int))) = 1 := by
  rw [oppL, List.countP_map, ← cnt_one h.nd (h.al' ht hx hne)]
  refine List.countP_congr fun q hq => ?_
  simp only [Function.comp, decide_eq_true_eq]
  exact h.op_iff hq hne
end
/-- the count of the law -/
def mnF (L : List Int) (t : Int) : Nat → Int
  | 0 => 0
  | x + 1 => mnF L t x + if (x : Int) = t then 0 else (L.countP (fun o => decide (o = (x : Int))) : Int)
theorem mnF_val {L : List Int} {t n : Nat} (h : ∀ x, x < n → t ≠ x → L.countP (fun o => decide (o = (x : Int))) = 1) : ∀ m, m ≤ n → mnF L t m = m - if t < m then 1 else 0
  | 0, _ => by simp [mnF]
  | m + 1, hm => by
    rw [mnF, mnF_val h m (by omega)]
    by_cases e : m = t
    · rw [if_pos (show (m : Int) = t by omega)]
      split <;> split <;> omega
    · rw [if_neg (show ¬ (m : Int) = t by omega), h m (by omega) (by omega)]
      split <;> split <;> omega
end Go.Proofs.Ytgflhgkcmfjkgaa
end

section
/- Plain: the schedule of the circle method is valid (kernel check over numbers that stand for pairs). -/
namespace Go.Proofs.Ytgflhgkcmfjkgaa
set_option linter.unusedSimpArgs false
set_option linter.unusedVariables false

def evn (n : Nat) : Nat := n + n % 2
def rrU (n r : Nat) : List (List Int) :=
  (if n % 2 = 0 then [prL ((n - 1 : Nat) : Int) (r : Int)] else []) ++
  (List.range (evn n / 2 - 1)).map fun j => prL (((r + (j + 1)) % (evn n - 1) : Nat) : Int) (((r + (evn n - 1) - (j + 1)) % (evn n - 1) : Nat) : Int)
def rrR (n r : Nat) : List (List Int) := srtL (rrU n r)
def rrL (n : Nat) : List (List (List Int)) := (List.range (evn n - 1)).map (rrR n)
theorem rrL_len (n : Nat) : (rrL n).length = evn n - 1 := by simp [rrL]
theorem x3_rrL {n r : Nat} (h : r < evn n - 1) : x3at (rrL n) r = rrR n r := by rw [x3at_eq (by rw [rrL_len]; exact h)]; simp [rrL]
theorem rrR_len {n r : Nat} (h : 2 ≤ n) : (rrR n r).length = n / 2 := by
  rw [rrR, srtL_len, rrU]
  unfold evn
  split <;> simp <;> omega

/-! ### pairs as numbers -/
def dec (c : Nat) : List Int := [((c / 64 : Nat) : Int), ((c % 64 : Nat) : Int)]
def cod (x y : Nat) : Nat := bif Nat.blt y x then y * 64 + x else x * 64 + y
theorem dec_pair {a b : Nat} (hb : b < 64) : dec (a * 64 + b) = [(a : Int), (b : Int)] := by
  rw [dec, show (a * 64 + b) / 64 = a by omega, show (a * 64 + b) % 64 = b by omega]
theorem blt_t {a b : Nat} : Nat.blt a b = true ↔ a < b := by rw [Nat.blt_eq]
theorem dec_cod {x y : Nat} (hx : x < 64) (hy : y < 64) : dec (cod x y) = prL x y := by
  rw [cod, prL]
  by_cases h : y < x
  · rw [blt_t.2 h, cond_true, if_pos (by omega), dec_pair hx]
  · rw [show Nat.blt y x = false by rw [← Bool.not_eq_true, blt_t]; exact h, cond_false, if_neg (by omega), dec_pair hy]
theorem cmp_dec (a b : Nat) : (cmpI (dec a) (dec b) ≤ 0 ↔ a ≤ b) ∧ (cmpI (dec a) (dec b) < 0 ↔ a < b) := by
  simp only [dec, cmpI]
  by_cases h1 : a / 64 < b / 64
  · rw [if_pos (by omega)]; omega
  · rw [if_neg (by omega)]
    by_cases h2 : b / 64 < a / 64
    · rw [if_pos (by omega)]; omega
    · rw [if_neg (by omega)]
      by_cases h3 : a % 64 < b % 64
      · rw [if_pos (by omega)]; omega
      · rw [if_neg (by omega)]
        by_cases h4 : b % 64 < a % 64
        · rw [if_pos (by omega)]; omega
        · rw [if_neg (by omega)]; omega
def insN (b : Nat) : List Nat → List Nat
  | [] => [b]
  | a :: r => bif Nat.ble b a then b :: a :: r else a :: insN b r
def srtN (A : List Nat) : List Nat := A.foldr insN []
theorem ins_map (b : Nat) : ∀ A : List Nat, insL (dec b) (A.map dec) = (insN b A).map dec
  | [] => rfl
  | a :: r => by
    have h := (cmp_dec b a).1
    rw [List.map_cons, insL, insN]
    by_cases e : b ≤ a
    · rw [if_pos (by rw [leL]; exact decide_eq_true (h.2 e)), Nat.ble_eq_true_of_le e, cond_true]; rfl
    · rw [if_neg (by rw [leL]; simp only [decide_eq_true_eq]; omega), show Nat.ble b a = false by rw [← Bool.not_eq_true, Nat.ble_eq]; exact e, cond_false, List.map_cons, ins_map b r]
theorem srt_map : ∀ A : List Nat, srtL (A.map dec) = (srtN A).map dec
  | [] => rfl
  | a :: r => by
    rw [List.map_cons, srtL, List.foldr_cons]
    rw [show List.foldr insL [] (List.map dec r) = srtL (List.map dec r) from rfl, srt_map r, ins_map]; rfl
def rrC (n r : Nat) : List Nat :=
  (bif Nat.beq (n % 2) 0 then [cod (n - 1) r] else []) ++
  (List.range (evn n / 2 - 1)).map fun j => cod ((r + (j + 1)) % (evn n - 1)) ((r + (evn n - 1) - (j + 1)) % (evn n - 1))
theorem rr_cod {n r : Nat} (h2 : 2 ≤ n) (h : n ≤ 32) (hr : r < evn n - 1) : rrR n r = (srtN (rrC n r)).map dec := by
  have hm : evn n - 1 ≤ 32 ∧ 0 < evn n - 1 := by unfold evn; omega
  rw [rrR, ← srt_map]
  congr 1
  rw [rrU, rrC, List.map_append, List.map_map]
  congr 1
  · by_cases e : n % 2 = 0
    · rw [if_pos e, show Nat.beq (n % 2) 0 = true from by rw [e]; rfl, cond_true, List.map_singleton, dec_cod (by omega) (by omega)]
    · rw [if_neg e, show Nat.beq (n % 2) 0 = false from by rw [show n % 2 = 1 by omega]; rfl, cond_false]; rfl
  · refine List.map_congr_left fun j _ => ?_
    have h1 := Nat.mod_lt (r + (j + 1)) hm.2
    have h2 := Nat.mod_lt (r + (evn n - 1) - (j + 1)) hm.2
    exact (dec_cod (by omega) (by omega)).symm
/-- the round in which two teams meet -/
def invP (n a b : Nat) : Nat := bif Nat.beq (n % 2) 0 && Nat.beq (b + 1) n then a else ((a + b) * (evn n / 2)) % (evn n - 1)
def stB : List Nat → Bool
  | [] => true
  | a :: r => match r with
    | [] => true
    | b :: _ => Nat.blt a b && stB r
def djQ (a : Nat) : List Nat → Bool
  | [] => true
  | b :: r => !Nat.beq (a / 64) (b / 64) && !Nat.beq (a / 64) (b % 64) && !Nat.beq (a % 64) (b / 64) && !Nat.beq (a % 64) (b % 64) && djQ a r
def djB : List Nat → Bool
  | [] => true
  | a :: r => djQ a r && djB r
def hasN (a : Nat) : List Nat → Bool
  | [] => false
  | b :: r => Nat.beq a b || hasN a r
theorem hasN_t {a : Nat} : ∀ {r : List Nat}, hasN a r = true → a ∈ r
  | [], h => by simp [hasN] at h
  | b :: r, h => by
    simp only [hasN, Bool.or_eq_true] at h
    rcases h with h | h
    · rw [Nat.eq_of_beq_eq_true h]; simp
    · exact List.mem_cons_of_mem _ (hasN_t h)
def natAt (q : List Nat) (k : Nat) : Nat := q.getD k 0
theorem xat_map {q : List Nat} {k : Nat} (h : k < q.length) : xat (q.map dec) k = dec (natAt q k) := by
  rw [xat_eq (by simpa using h), List.getElem_map, natAt, List.getD_eq_getElem?_getD, List.getElem?_eq_getElem h]; rfl
theorem stB_t : ∀ {q : List Nat}, stB q = true → ∀ k, k + 1 < q.length → natAt q k < natAt q (k + 1)
  | [], _, k, hk => by simp at hk
  | [_], _, k, hk => by simp at hk
  | a :: b :: r, h, 0, _ => by
    rw [stB, Bool.and_eq_true] at h
    exact blt_t.1 h.1
  | a :: b :: r, h, k + 1, hk => by
    rw [stB, Bool.and_eq_true] at h
    exact stB_t h.2 k (by simpa using hk)
theorem nbeq {a b : Nat} (h : (!Nat.beq a b) = true) : a ≠ b := fun e => by
  subst e
  rw [Nat.beq_refl] at h
  cases h
theorem djQ_t {a : Nat} : ∀ {r : List Nat}, djQ a r = true → ∀ b ∈ r, ∀ x ∈ dec a, x ∉ dec b
  | [], _, b, hb => by simp at hb
  | c :: r, h, b, hb => fun x hx hx' => by
    simp only [djQ, Bool.and_eq_true] at h
    obtain ⟨⟨⟨⟨h1, h2⟩, h3⟩, h4⟩, h5⟩ := h
    rcases List.mem_cons.1 hb with e | hb
    · subst e
      have := nbeq h1
      have := nbeq h2
      have := nbeq h3
      have := nbeq h4
      simp only [dec, List.mem_cons, List.not_mem_nil, or_false] at hx hx'
      omega
    · exact djQ_t h5 b hb x hx hx'
theorem natAt_mem {q : List Nat} {k : Nat} (h : k < q.length) : natAt q k ∈ q := by
  rw [natAt, List.getD_eq_getElem?_getD, List.getElem?_eq_getElem h]; exact List.getElem_mem h
theorem djB_t : ∀ {q : List Nat}, djB q = true → ∀ k, k < q.length → ∀ j, j < k → ∀ x ∈ dec (natAt q j), x ∉ dec (natAt q k)
  | [], _, k, hk => by simp at hk
  | a :: r, h, 0, _ => fun j hj => absurd hj (by omega)
  | a :: r, h, k + 1, hk => fun j hj x hx => by
    rw [djB, Bool.and_eq_true] at h
    have hk' : k < r.length := by simpa using hk
    cases j with
    | zero => exact djQ_t h.1 (natAt r k) (natAt_mem hk') x hx
    | succ j => exact djB_t h.2 k hk' j (by omega) x hx
def allN (p : Nat → Bool) : Nat → Bool
  | 0 => true
  | k + 1 => p k && allN p k
theorem allN_t {p : Nat → Bool} : ∀ {n : Nat}, allN p n = true → ∀ k, k < n → p k = true
  | 0, _, k, hk => absurd hk (by omega)
  | n + 1, h, k, hk => by
    rw [allN, Bool.and_eq_true] at h
    by_cases e : k = n
    · rw [e]; exact h.1
    · exact allN_t h.2 k (by omega)
def gdC (n r c : Nat) : Bool := Nat.blt (c / 64) (c % 64) && Nat.blt (c % 64) n && Nat.beq (invP n (c / 64) (c % 64)) r
def chkR (n r : Nat) (q : List Nat) : Bool :=
  (q.all (gdC n r)) && stB q && djB q &&
  (allN (fun x => Nat.beq x r || hasN (cod x ((2 * r + (evn n - 1) - x) % (evn n - 1))) q) (evn n - 1)) &&
  (Nat.beq (n % 2) 1 || hasN (r * 64 + (n - 1)) q)
def chkN (n : Nat) : Bool :=
  allN (fun a => allN (fun b => Nat.ble b a || (Nat.blt (invP n a b) (evn n - 1) && ((Nat.beq (n % 2) 0 && Nat.beq (b + 1) n) || (!Nat.beq a (invP n a b) && Nat.blt a (evn n - 1) && Nat.beq ((2 * invP n a b + (evn n - 1) - a) % (evn n - 1)) b)))) n) n
def chkRR (n : Nat) : Bool := allN (fun r => chkR n r (srtN (rrC n r))) (evn n - 1) && chkN n
set_option maxRecDepth 100000
theorem rr_chk : allN (fun k => chkRR (k + 2)) 31 = true := by decide +kernel
theorem nodup_of_inv {inv : List Int → Nat} : ∀ {L : List (List (List Int))} {s : Nat}, (∀ r, r < L.length → (x3at L r).Nodup) → (∀ r, r < L.length → ∀ p ∈ x3at L r, inv p = s + r) → L.flatten.Nodup
  | [], _, _, _ => by simp
  | q :: L, s, h1, h2 => by
    have h3 : L.flatten.Nodup := nodup_of_inv (inv := inv) (s := s + 1) (fun r hr => h1 (r + 1) (by simpa using hr)) (fun r hr p hp => by
      have := h2 (r + 1) (by simpa using hr) p hp
      omega)
    rw [List.flatten_cons, List.nodup_append]
    refine ⟨h1 0 (by simp), h3, fun a ha b hb e => ?_⟩
    subst e
    obtain ⟨q', hq', hb'⟩ := List.mem_flatten.1 hb
    obtain ⟨r, hr, rfl⟩ := mem_x3at hq'
    have e1 := h2 0 (by simp) a ha
    have e2 := h2 (r + 1) (by simpa using hr) a hb'
    omega
theorem cmpI_lt_trans {a b c : List Int} (h1 : cmpI a b < 0) (h2 : cmpI b c < 0) : cmpI a c < 0 := by
  have h3 := cmpI_trans (a := a) (b := b) (c := c) (by omega) (by omega)
  rcases Int.lt_or_le (cmpI a c) 0 with h | h
  · exact h
  · have e := cmpI_eq (a := a) (b := c) (by omega)
    subst e
    have := cmpI_neg a b
    omega
theorem st_lt {q : List (List Int)} (h : ∀ k, k + 1 < q.length → cmpI (xat q k) (xat q (k + 1)) < 0) : ∀ d j, j + d + 1 < q.length → cmpI (xat q j) (xat q (j + d + 1)) < 0
  | 0, j, hj => h j hj
  | d + 1, j, hj => cmpI_lt_trans (st_lt h d j (by omega)) (h (j + d + 1) hj)
theorem st_lt' {q : List (List Int)} (h : ∀ k, k + 1 < q.length → cmpI (xat q k) (xat q (k + 1)) < 0) {j k : Nat} (hjk : j < k) (hk : k < q.length) : cmpI (xat q j) (xat q k) < 0 := by
  have := st_lt h (k - j - 1) j (by omega)
  rwa [show j + (k - j - 1) + 1 = k by omega] at this
theorem st_nodup {q : List (List Int)} (h : ∀ k, k + 1 < q.length → cmpI (xat q k) (xat q (k + 1)) < 0) : q.Nodup := by
  rw [List.nodup_iff_pairwise_ne, List.pairwise_iff_getElem]
  intro i j hi hj hij e
  have := st_lt' h hij hj
  rw [xat_eq hi, xat_eq hj, e, cmpI_self] at this
  omega
theorem gdC_t {n r c : Nat} (h : gdC n r c = true) : gdP n (dec c) = true ∧ invP n (nth (dec c) 0).toNat (nth (dec c) 1).toNat = r := by
  simp only [gdC, Bool.and_eq_true] at h
  obtain ⟨⟨h1, h2⟩, h3⟩ := h
  have h1 := blt_t.1 h1
  have h2 := blt_t.1 h2
  have h3 := Nat.eq_of_beq_eq_true h3
  have e0 : nth (dec c) 0 = ((c / 64 : Nat) : Int) := rfl
  have e1 : nth (dec c) 1 = ((c % 64 : Nat) : Int) := rfl
  refine ⟨?_, by rw [e0, e1, Int.toNat_natCast, Int.toNat_natCast]; exact h3⟩
  rw [gdP, e0, e1]
  simp only [Bool.and_eq_true, decide_eq_true_eq]
  exact ⟨⟨⟨rfl, by omega⟩, inB_true (by omega)⟩, inB_true (by omega)⟩
theorem rr_vs {n : Nat} (h2 : 2 ≤ n) (h32 : n ≤ 32) : VS n (rrL n) := by
  have hc := allN_t rr_chk (n - 2) (by omega)
  rw [show n - 2 + 2 = n by omega, chkRR, Bool.and_eq_true] at hc
  obtain ⟨hc, hn⟩ := hc
  have hm : evn n - 1 ≤ 32 ∧ n - 1 ≤ evn n - 1 := by unfold evn; omega
  have hR : ∀ r, r < evn n - 1 → (∀ p ∈ rrR n r, gdP n p = true ∧ invP n (nth p 0).toNat (nth p 1).toNat = r) ∧ (∀ k, k + 1 < (rrR n r).length → cmpI (xat (rrR n r) k) (xat (rrR n r) (k + 1)) < 0) ∧
      (∀ k, k < (rrR n r).length → ∀ j, j < k → ∀ x ∈ xat (rrR n r) j, x ∉ xat (rrR n r) k) ∧ (∀ x, x < evn n - 1 → x ≠ r → prL (x : Int) (((2 * r + (evn n - 1) - x) % (evn n - 1) : Nat) : Int) ∈ rrR n r) ∧
      (n % 2 = 0 → [(r : Int), ((n - 1 : Nat) : Int)] ∈ rrR n r) := by
    intro r hr
    have h := allN_t hc r hr
    rw [rr_cod h2 h32 hr]
    generalize srtN (rrC n r) = q at h
    simp only [chkR, Bool.and_eq_true, Bool.or_eq_true] at h
    obtain ⟨⟨⟨⟨a1, a2⟩, a3⟩, a4⟩, a5⟩ := h
    refine ⟨fun p hp => ?_, fun k hk => ?_, fun k hk j hj => ?_, fun x hx hne => ?_, fun he => ?_⟩
    · obtain ⟨c, hc, rfl⟩ := List.mem_map.1 hp
      exact gdC_t (List.all_eq_true.1 a1 c hc)
    · rw [List.length_map] at hk
      rw [xat_map hk, xat_map (by omega)]
      exact (cmp_dec _ _).2.2 (stB_t a2 k hk)
    · rw [List.length_map] at hk
      rw [xat_map hk, xat_map (by omega)]
      exact djB_t a3 k hk j hj
    · have := allN_t a4 x hx
      rw [Bool.or_eq_true] at this
      have hl := Nat.mod_lt (2 * r + (evn n - 1) - x) (show 0 < evn n - 1 by omega)
      rcases this with h | h
      · exact absurd (Nat.eq_of_beq_eq_true h) hne
      · rw [← dec_cod (by omega) (by omega)]
        exact List.mem_map_of_mem (hasN_t h)
    · rcases a5 with h | h
      · have := Nat.eq_of_beq_eq_true h; omega
      · rw [← dec_pair (by omega)]
        exact List.mem_map_of_mem (hasN_t h)
  have hq : ∀ q ∈ rrL n, ∃ r, r < evn n - 1 ∧ q = rrR n r := by
    intro q hq
    obtain ⟨r, hr, rfl⟩ := mem_x3at hq
    rw [rrL_len] at hr
    exact ⟨r, hr, x3_rrL hr⟩
  have hin : ∀ {r p}, r < evn n - 1 → p ∈ rrR n r → p ∈ (rrL n).flatten := fun {r p} hr hp => List.mem_flatten.2 ⟨rrR n r, by rw [← x3_rrL hr]; exact x3at_mem (by rw [rrL_len]; exact hr), hp⟩
  refine ⟨h2, h32, fun q hq' p hp => ?_, fun q hq' => ?_, fun q hq' => ?_, ?_, fun a b hab hb => ?_⟩
  · obtain ⟨r, hr, rfl⟩ := hq q hq'
    exact ((hR r hr).1 p hp).1
  · obtain ⟨r, hr, rfl⟩ := hq q hq'
    exact (hR r hr).2.1
  · obtain ⟨r, hr, rfl⟩ := hq q hq'
    exact (hR r hr).2.2.1
  · refine nodup_of_inv (inv := fun p => invP n (nth p 0).toNat (nth p 1).toNat) (s := 0) (fun r hr => ?_) (fun r hr p hp => ?_)
    · rw [rrL_len] at hr
      rw [x3_rrL hr]
      exact st_nodup (hR r hr).2.1
    · rw [rrL_len] at hr
      rw [x3_rrL hr] at hp
      rw [Nat.zero_add]
      exact ((hR r hr).1 p hp).2
  · have h := allN_t (allN_t hn a (by omega)) b hb
    simp only [Bool.or_eq_true, Bool.and_eq_true] at h
    rcases h with h | ⟨h1, h⟩
    · have := Nat.le_of_ble_eq_true h; omega
    · have h1 := blt_t.1 h1
      rcases h with h | ⟨⟨h3, h4⟩, h5⟩
      · have h6 := (hR _ h1).2.2.2.2 (Nat.eq_of_beq_eq_true h.1)
        have e : invP n a b = a := by rw [invP, h.1, h.2]; rfl
        rw [e] at h6 h1
        rw [show b = n - 1 by have := Nat.eq_of_beq_eq_true h.2; omega]
        exact hin h1 h6
      · have h6 := (hR _ h1).2.2.2.1 a (blt_t.1 h4) (nbeq h3)
        rw [Nat.eq_of_beq_eq_true h5, prL, if_neg (by omega)] at h6
        exact hin h1 h6
theorem rr_few {n : Nat} (h2 : 2 ≤ n) (h : n ≤ 16) : (rrL n).flatten.length ≤ 128 := by
  have h1 : ∀ q ∈ rrL n, q.length = n / 2 := fun q hq => by
    obtain ⟨r, hr, rfl⟩ := mem_x3at hq
    rw [rrL_len] at hr
    rw [x3_rrL hr, rrR_len h2]
  rw [List.length_flatten, List.map_congr_left (g := fun _ => n / 2) h1, List.map_const', List.sum_replicate_nat, rrL_len]
  have h3 : evn n - 1 ≤ 15 := by unfold evn; omega
  have h4 : n / 2 ≤ 8 := by omega
  have := Nat.mul_le_mul h3 h4
  omega
end Go.Proofs.Ytgflhgkcmfjkgaa
end

section
/- Permutations as lists, in plain terms. -/
namespace Go.Proofs.Ytgflhgkcmfjkgaa
set_option linter.unusedSimpArgs false
set_option linter.unusedVariables false
/-- a list that holds each number below its length once -/
structure IsP (xs : List Int) : Prop where
  lt : ∀ j, j < xs.length → 0 ≤ nth xs j ∧ nth xs j < xs.length
  inj : ∀ i j, i < xs.length → j < xs.length → nth xs i = nth xs j → i = j
/-- a permutation as a function -/
def pf (xs : List Int) (j : Nat) : Nat := (nth xs j).toNat
theorem nth_pf {xs : List Int} (h : IsP xs) {j : Nat} (hj : j < xs.length) : nth xs j = (pf xs j : Int) := by
  have := (h.lt j hj).1; unfold pf; omega
theorem IsP.bij {xs : List Int} (h : IsP xs) : Bij xs.length (pf xs) where
  lt j hj := by have := h.lt j hj; unfold pf; omega
  inj i j hi hj e := h.inj i j hi hj (by rw [nth_pf h hi, nth_pf h hj, e])
theorem IsP.pf_lt {xs : List Int} (h : IsP xs) {j : Nat} (hj : j < xs.length) : pf xs j < xs.length := h.bij.lt j hj
theorem IsP.nodup {xs : List Int} (h : IsP xs) : xs.Nodup := by
  rw [List.nodup_iff_pairwise_ne, List.pairwise_iff_getElem]
  intro a b ha hb hab e
  have := h.inj a b ha hb (by rw [nth_eq ha, nth_eq hb, e])
  omega
theorem nth_ext {xs ys : List Int} (hl : xs.length = ys.length) (h : ∀ j, j < xs.length → nth xs j = nth ys j) : xs = ys := by
  apply List.ext_getElem hl
  intro j h1 h2
  have := h j h1
  rwa [nth_eq h1, nth_eq h2] at this
/-- the identity -/
def iot (n : Nat) : List Int := (List.range n).map fun k : Nat => (k : Int)
theorem iot_len (n : Nat) : (iot n).length = n := by simp [iot]
theorem nth_iot {n j : Nat} (h : j < n) : nth (iot n) j = j := by simp [iot, nth, h]
theorem iot_isP (n : Nat) : IsP (iot n) where
  lt j hj := by rw [iot_len] at hj ⊢; rw [nth_iot hj]; omega
  inj i j hi hj e := by rw [iot_len] at hi hj; rw [nth_iot hi, nth_iot hj] at e; omega
theorem mem_iot {n : Nat} {x : Int} : x ∈ iot n ↔ 0 ≤ x ∧ x < n := by
  unfold iot; rw [List.mem_map]
  constructor
  · rintro ⟨k, hk, rfl⟩; have := List.mem_range.1 hk; omega
  · intro h; exact ⟨x.toNat, List.mem_range.2 (by omega), by omega⟩
theorem IsP.perm {xs : List Int} (h : IsP xs) : xs.Perm (iot xs.length) := by
  refine (List.perm_ext_iff_of_nodup h.nodup (iot_isP _).nodup).2 fun x => ?_
  rw [mem_iot]
  constructor
  · intro hx
    obtain ⟨j, hj, rfl⟩ := List.getElem_of_mem hx
    have := h.lt j hj; rwa [nth_eq hj] at this
  · intro hx
    obtain ⟨j, hj, e⟩ := h.bij.onto (y := x.toNat) (by omega)
    have := nth_pf h hj
    rw [e] at this
    have hm := nth_mem hj
    rw [this] at hm
    rwa [Int.toNat_of_nonneg hx.1] at hm
/-- lists in rising order with the same numbers are the same -/
theorem sorted_eq {a b : List Int} (h : a.Perm b) (ha : a.Pairwise (· ≤ ·)) (hb : b.Pairwise (· ≤ ·)) : a = b :=
  h.eq_of_pairwise (fun x y _ _ h1 h2 => by omega) ha hb
theorem msort_sorted (xs : List Int) : (xs.mergeSort fun x y => decide (x ≤ y)).Pairwise (· ≤ ·) := by
  have := List.pairwise_mergeSort (le := fun x y : Int => decide (x ≤ y)) (fun a b c h1 h2 => by simp at *; omega) (fun a b => by simp; omega) xs
  exact this.imp fun h => by simpa using h
/-! ### exchanges -/
theorem nth_set {xs : List Int} {i j : Nat} {x : Int} (h : i < xs.length) : nth (xs.set i x) j = if i = j then x else nth xs j := by
  unfold nth
  rw [List.getD_eq_getElem?_getD, List.getElem?_set]
  split
  · rename_i e; subst e; simp [h]
  · simp
/-! ### composition, inverse -/
/-- place j of the first k is written at the number that stands there -/
def invQ (xs : List Int) : Nat → List Int
  | 0 => List.replicate xs.length 0
  | k + 1 => (invQ xs k).set (pf xs k) k
def invL (xs : List Int) : List Int := invQ xs xs.length
theorem invQ_len (xs : List Int) : ∀ k, (invQ xs k).length = xs.length
  | 0 => by simp [invQ]
  | k + 1 => by rw [invQ, List.length_set, invQ_len xs k]
theorem nth_invQ {xs : List Int} (h : IsP xs) : ∀ k, k ≤ xs.length → ∀ j, j < k → nth (invQ xs k) (pf xs j) = j
  | 0, _, j, hj => by omega
  | k + 1, hk, j, hj => by
    rw [invQ, nth_set (by rw [invQ_len]; exact h.pf_lt (by omega))]
    by_cases e : k = j
    · subst e; rw [if_pos rfl]
    · rw [if_neg (fun e2 => e (h.bij.inj k j (by omega) (by omega) e2)), nth_invQ h k (by omega) j (by omega)]
theorem invL_len (xs : List Int) : (invL xs).length = xs.length := invQ_len xs _
theorem nth_invL {xs : List Int} (h : IsP xs) {j : Nat} (hj : j < xs.length) : nth (invL xs) (pf xs j) = j := nth_invQ h _ (Nat.le_refl _) j hj
theorem IsP.inv {xs : List Int} (h : IsP xs) : IsP (invL xs) := by
  have key : ∀ y, y < xs.length → ∃ j, j < xs.length ∧ pf xs j = y := fun y hy => h.bij.onto hy
  refine ⟨fun y hy => ?_, fun a b ha hb e => ?_⟩
  · rw [invL_len] at hy ⊢
    obtain ⟨j, hj, rfl⟩ := key y hy
    rw [nth_invL h hj]; omega
  · rw [invL_len] at ha hb
    obtain ⟨i, hi, rfl⟩ := key a ha
    obtain ⟨j, hj, rfl⟩ := key b hb
    rw [nth_invL h hi, nth_invL h hj] at e
    have : i = j := by omega
    rw [this]
/-! ### signs -/
end Go.Proofs.Ytgflhgkcmfjkgaa
end

section
/- slices.Sort at []int64: a row that a call owns, sorted. -/
namespace Go.Proofs.Ytgflhgkcmfjkgaa
set_option linter.unusedSimpArgs false
set_option linter.unusedVariables false
open Go.RowKit

def Try.mSort_ren : Go.Shelf.Ren := ⟨fun | 5 => 45 | 8 => 68 | 7 => 81 | 19 => 106 | 20 => 107 | 10 => 113 | 11 => 114 | 12 => 115 | 13 => 116 | 14 => 117 | 15 => 118 | 16 => 119 | 17 => 120 | 18 => 121 | 30 => 132 | 31 => 127 | 32 => 128 | 33 => 133 | 34 => 134 | 35 => 108 | 40 => 136 | n => n, fun | 23 => 30 | 25 => 2 | 3 => 3 | 32 => 105 | 22 => 30 | 0 => 0 | 44 => 133 | 46 => 99 | 4 => 4 | 36 => 127 | 35 => 126 | 41 => 73 | 5 => 5 | 9 => 9 | 53 => 146 | 57 => 150 | 63 => 155 | 64 => 156 | n => n, fun | n => n⟩
theorem Try.mSort : Go.Proofs.SlLaysM.n5 Try.prog Try.mSort_ren := {
  mixed := by kernel_rfl
  f5 := ⟨Try.f45.name, by decide, Try.func45.trans (congrArg some (by kernel_rfl))⟩
  f7 := ⟨Try.f81.name, by decide, Try.func81.trans (congrArg some (by kernel_rfl))⟩
  f8 := Try.func68.trans (congrArg some (by kernel_rfl))
  f10 := ⟨Try.f113.name, by decide, Try.func113.trans (congrArg some (by kernel_rfl))⟩
  f11 := ⟨Try.f114.name, by decide, Try.func114.trans (congrArg some (by kernel_rfl))⟩
  f12 := ⟨Try.f115.name, by decide, Try.func115.trans (congrArg some (by kernel_rfl))⟩
  f13 := ⟨Try.f116.name, by decide, Try.func116.trans (congrArg some (by kernel_rfl))⟩
  f14 := ⟨Try.f117.name, by decide, Try.func117.trans (congrArg some (by kernel_rfl))⟩
  f15 := ⟨Try.f118.name, by decide, Try.func118.trans (congrArg some (by kernel_rfl))⟩
  f16 := ⟨Try.f119.name, by decide, Try.func119.trans (congrArg some (by kernel_rfl))⟩
  f17 := ⟨Try.f120.name, by decide, Try.func120.trans (congrArg some (by kernel_rfl))⟩
  f18 := ⟨Try.f121.name, by decide, Try.func121.trans (congrArg some (by kernel_rfl))⟩
  f19 := Try.func106.trans (congrArg some (by kernel_rfl))
  f20 := Try.func107.trans (congrArg some (by kernel_rfl))
  f30 := ⟨Try.f132.name, by decide, Try.func132.trans (congrArg some (by kernel_rfl))⟩
  f31 := Try.func127.trans (congrArg some (by kernel_rfl))
  f32 := Try.func128.trans (congrArg some (by kernel_rfl))
  f33 := ⟨Try.f133.name, by decide, Try.func133.trans (congrArg some (by kernel_rfl))⟩
  f34 := ⟨Try.f134.name, by decide, Try.func134.trans (congrArg some (by kernel_rfl))⟩
  f35 := ⟨Try.f108.name, by decide, Try.func108.trans (congrArg some (by kernel_rfl))⟩
  f40 := ⟨Try.f136.name, by decide, Try.func136.trans (congrArg some (by kernel_rfl))⟩
  t0 := Try.underlying0
  a0 := Try.isAgg0
  z0 := Try.sizeOf0
  v0 := Try.zeroValue0
  t3 := Try.underlying3
  a3 := Try.isAgg3
  z3 := Try.sizeOf3
  v3 := Try.zeroValue3
  t4 := Try.underlying4
  a4 := Try.isAgg4
  z4 := Try.sizeOf4
  v4 := Try.zeroValue4
  t5 := Try.underlying5
  a5 := Try.isAgg5
  z5 := Try.sizeOf5
  v5 := Try.zeroValue5
  t9 := Try.underlying9
  a9 := Try.isAgg9
  z9 := Try.sizeOf9
  v9 := Try.zeroValue9
  t22 := Try.underlying30
  a22 := Try.isAgg30
  z22 := Try.sizeOf30
  v22 := Try.zeroValue30
  t23 := Try.underlying30
  a23 := Try.isAgg30
  z23 := Try.sizeOf30
  v23 := Try.zeroValue30
  t25 := Try.underlying2
  a25 := Try.isAgg2
  z25 := Try.sizeOf2
  v25 := Try.zeroValue2
  t32 := Try.underlying105
  a32 := Try.isAgg105
  z32 := Try.sizeOf105
  v32 := Try.zeroValue105
  t35 := Try.underlying126
  a35 := Try.isAgg126
  z35 := Try.sizeOf126
  v35 := Try.zeroValue126
  t36 := Try.underlying127
  a36 := Try.isAgg127
  z36 := Try.sizeOf127
  v36 := Try.zeroValue127
  t41 := Try.underlying73
  a41 := Try.isAgg73
  z41 := Try.sizeOf73
  v41 := Try.zeroValue73
  t44 := Try.underlying133
  a44 := Try.isAgg133
  z44 := Try.sizeOf133
  v44 := Try.zeroValue133
  t46 := Try.underlying99
  a46 := Try.isAgg99
  z46 := Try.sizeOf99
  v46 := Try.zeroValue99
  t53 := Try.underlying146
  a53 := Try.isAgg146
  z53 := Try.sizeOf146
  v53 := Try.zeroValue146
  t57 := Try.underlying150
  a57 := Try.isAgg150
  z57 := Try.sizeOf150
  v57 := Try.zeroValue150
  t63 := Try.underlying155
  a63 := Try.isAgg155
  z63 := Try.sizeOf155
  v63 := Try.zeroValue155
  t64 := Try.underlying156
  a64 := Try.isAgg156
  z64 := Try.sizeOf156
  v64 := Try.zeroValue156
  }

/-- in rising order -/
def srt (xs : List Int) : List Int := xs.mergeSort fun x y => decide (x ≤ y)
theorem srt_len (xs : List Int) : (srt xs).length = xs.length := List.length_mergeSort _
theorem srt_perm (xs : List Int) : (srt xs).Perm xs := List.mergeSort_perm _ _
theorem Sort_c {B : Nat} {w0 w : World} {L : List Ent} (hS : St B w0 w L) (i : Nat) {v : Value} {xs : List Int} (hi : L[i]? = some (row 2 v (iv xs))) (hl : xs.length < 4611686018427387904) :
    Calls Try.prog 45 #[v] w fun e w' => e = .returned (.tuple #[]) ∧ St B w0 w' (L.set i (row 2 v (iv (srt xs)))) := by
  have hx := hS.ok _ (List.mem_of_getElem? hi)
  rcases hx with ⟨hp, _⟩ | ⟨_, hv, hu⟩ | ⟨_, g, cap, cur, hv, hB, hh, h1, h2, h3, h4⟩
  · simp [row] at hp
  · simp only [row] at hv hu
    have hx : xs = [] := by cases xs with
      | nil => rfl
      | cons a r => simp [iv] at hu
    subst hx
    subst hv
    have hc := AnyM.slices_Sort_int_none Try.mSort none 0 w
    refine Calls.mono hc ?_
    rintro e w' ⟨rfl, rfl⟩
    refine ⟨rfl, ?_⟩
    have : L.set i (row 2 (.slice none 0 0) (iv (srt []))) = L := by
      obtain ⟨hlt, heq⟩ := List.getElem?_eq_some_iff.1 hi
      have e : srt [] = [] := by simp [srt]
      rw [e, ← heq, List.set_getElem_self]
    rw [this]; exact hS
  · simp only [row] at hv h1 h4 hh
    rw [iv_len] at hv h1 h4
    have hblk : g < w.heap.size := (Array.getElem?_eq_some_iff.1 hh).1
    have hH : Go.Sort.Holds (Value.int .i64) w g 0 xs.toArray := holds_of_blockI hh h4
    have hc := AnyM.slices_Sort_int Try.mSort g 0 cap xs w hH hblk hl
    subst hv
    refine Calls.mono hc ?_
    rintro e w' ⟨rfl, n, os, rfl⟩
    refine ⟨rfl, ?_⟩
    have hlen : (srt xs).length = xs.length := srt_len xs
    refine hS.put i hi ?_ (row 2 (.slice (some ⟨g, 0, none⟩) xs.length cap) (iv (srt xs))) (.inr (.inr ⟨rfl, g, cap, _, ?_, hB, heap_sortedI _ hh, ?_, h2, ?_, ?_⟩)) (.inl rfl)
    · exact grownBy_sortedI _
    · simp [row, iv_len, hlen]
    · simp [row, iv_len, hlen]; omega
    · simp [Go.Sort.putCells, h3]
    · have := take_putCellsI cur (srt xs) (by omega)
      rw [hlen] at this
      have hlen' : (xs.mergeSort fun x y => decide (x ≤ y)).length = xs.length := hlen
      simpa [row, iv, srt, hlen'] using this
end Go.Proofs.Ytgflhgkcmfjkgaa
end

section
/- Images of sets under permutations; ranks of permutations. In plain terms. -/
namespace Go.Proofs.Ytgflhgkcmfjkgaa
set_option linter.unusedSimpArgs false
set_option linter.unusedVariables false
theorem incB_pw : ∀ {xs : List Int} {l n : Int}, incB l n xs = true → xs.Pairwise (· < ·)
  | [], _, _, _ => List.Pairwise.nil
  | x :: t, l, n, h => by
    unfold incB at h; split at h
    · simp at h
    · exact List.Pairwise.cons (fun y hy => (incB_gt h y hy).1) (incB_pw h)
theorem srt_up (xs : List Int) : (srt xs).Pairwise (· ≤ ·) := msort_sorted xs
/-! ### ranks -/
end Go.Proofs.Ytgflhgkcmfjkgaa
end

section
/- Plain: the design of the pairs of a schedule, and its classes. -/
namespace Go.Proofs.Ytgflhgkcmfjkgaa
set_option linter.unusedSimpArgs false
set_option linter.unusedVariables false

theorem idn_at {n j : Nat} (h : j < n) : (idn n)[j]'(by rw [idn_len]; exact h) = (j : Int) := by simp [idn]
section
variable {n : Nat} {R : List (List (List Int))}
/-- the pairs, in order -/
def dsL (R : List (List (List Int))) : List (List Int) := srtL R.flatten
theorem dsL_len (R : List (List (List Int))) : (dsL R).length = R.flatten.length := srtL_len _
theorem VS.fgd (h : VS n R) {b : List Int} (hb : b ∈ dsL R) : GdP n b := by
  obtain ⟨q, hq, hbq⟩ := List.mem_flatten.1 ((srtL_perm _).mem_iff.1 hb)
  exact gdP_t (h.gd q hq b hbq)
theorem GdP.len {n : Int} {b : List Int} (h : GdP n b) : b.length = 2 := by rw [h.eq]; rfl
theorem VS.dnd (h : VS n R) : (dsL R).Nodup := (srtL_perm _).nodup_iff.2 h.nd
theorem VS.dst (h : VS n R) {i j : Nat} (hij : i < j) (hj : j < (dsL R).length) : cmpI (xat (dsL R) i) (xat (dsL R) j) < 0 := by
  have hp := List.pairwise_iff_getElem.1 (srtL_pw R.flatten) i j (by unfold dsL at hj; omega) hj hij
  have hle : cmpI (xat (dsL R) i) (xat (dsL R) j) ≤ 0 := by
    rw [xat_eq (show i < (dsL R).length by omega), xat_eq hj]
    exact of_decide_eq_true hp
  rcases Int.lt_or_eq_of_le hle with h1 | h1
  · exact h1
  · have e := cmpI_eq h1
    rw [xat_eq (show i < (dsL R).length by omega), xat_eq hj] at e
    exact absurd e (List.pairwise_iff_getElem.1 (List.nodup_iff_pairwise_ne.1 h.dnd) i j (by omega) hj hij)
theorem VS.dok (h : VS n R) (hl : R.flatten.length ≤ 128) : dOk n (dsL R) = true := by
  have h2 := h.n2
  have h3 := h.n32
  refine (DOk.mk' (by omega) (by omega) hl fun b hb => ?_).ok
  have hG := h.fgd ((srtL_perm _).mem_iff.2 hb)
  have a1 := hG.lt
  have a2 := hG.lo
  have a3 := hG.hi
  refine ⟨by rw [hG.len]; omega, ?_⟩
  rw [hG.eq]
  unfold incB
  rw [if_neg (by omega)]
  unfold incB
  rw [if_neg (by omega)]
  rfl
theorem VS.par (h : VS n R) {x y : Nat} (hxy : x < y) (hy : y < n) : parF (dsL R) x y = 1 := by
  rw [parF, dsL, cntD_perm (srtL_perm _), cntD, ← List.countP_eq_length_filter]
  rw [show List.countP (fun b => decide ((x : Int) ∈ b) && decide ((y : Int) ∈ b)) R.flatten = List.count [(x : Int), (y : Int)] R.flatten from ?_]
  · rw [List.Nodup.count h.nd, if_pos (h.al x y hxy hy)]; rfl
  · rw [List.count]
    refine List.countP_congr fun b hb => ?_
    have hG := h.fgd ((srtL_perm _).mem_iff.2 hb)
    have a1 := hG.lt
    have e := hG.eq
    constructor
    · intro hm
      simp only [Bool.and_eq_true, decide_eq_true_eq] at hm
      obtain ⟨h1, h2⟩ := hm
      rw [e] at h1 h2
      simp only [List.mem_cons, List.not_mem_nil, or_false] at h1 h2
      rw [beq_iff_eq, e, show nth b 0 = (x : Int) by omega, show nth b 1 = (y : Int) by omega]
    · intro hm
      rw [beq_iff_eq] at hm
      subst hm
      simp
theorem VS.prm (h : VS n R) : prmB n (dsL R) = true ∧ ∃ B r, prmV n (dsL R) = [(n : Int), B, r, 2, 1] := by
  have h2 := h.n2
  have hl : ∀ b ∈ dsL R, b.length = 2 := fun b hb => (h.fgd hb).len
  have hm : [((0 : Nat) : Int), ((1 : Nat) : Int)] ∈ dsL R := (srtL_perm _).mem_iff.2 (h.al 0 1 (by omega) (by omega))
  have h0 : 0 < (dsL R).length := List.length_pos_of_mem hm
  have hx : (xat (dsL R) 0).length = 2 := hl _ (xat_mem h0)
  have hp : ∀ c ∈ parL n (dsL R), c = 1 := fun c hc => by
    obtain ⟨l, hl, hcl⟩ := List.mem_flatten.1 hc
    obtain ⟨x, hx, rfl⟩ := List.mem_map.1 hl
    obtain ⟨t, ht, rfl⟩ := List.mem_map.1 hcl
    have := List.mem_range.1 ht
    exact h.par (by omega) (by omega)
  have hpl : 0 < (parL n (dsL R)).length := by
    have : parF (dsL R) 0 (0 + 1 + 0) ∈ parL n (dsL R) := List.mem_flatten.2 ⟨parR n (dsL R) 0, List.mem_map_of_mem (List.mem_range.2 (by omega)), List.mem_map_of_mem (f := fun t => parF (dsL R) 0 (0 + 1 + t)) (List.mem_range.2 (by omega))⟩
    exact List.length_pos_of_mem this
  have hn : nth (parL n (dsL R)) 0 = 1 := hp _ (by rw [nth_eq hpl]; exact List.getElem_mem hpl)
  have hb : prmB n (dsL R) = true := by
    simp only [prmB, Bool.and_eq_true, decide_eq_true_eq, List.all_eq_true]
    refine ⟨⟨⟨⟨h2, h0⟩, by rw [hx]; omega⟩, fun b hb => by rw [hl b hb, hx]; rfl⟩, fun c hc => by rw [hp c hc, hn]; rfl⟩
  exact ⟨hb, _, _, by unfold prmV; rw [if_pos hb, hx, hn]; rfl⟩
end
/-- the numbers of the blocks of each round -/
def clsR (D q : List (List Int)) : List Int := q.map fun p => (D.idxOf p : Int)
def clsL (D : List (List Int)) (R : List (List (List Int))) : List (List Int) := R.map (clsR D)
theorem idx_at {D : List (List Int)} {p : List Int} (h : p ∈ D) : D.idxOf p < D.length ∧ xat D (D.idxOf p) = p := by
  have hl := List.idxOf_lt_length_of_mem h
  exact ⟨hl, by rw [xat_eq hl]; exact List.getElem_idxOf hl⟩
theorem nth_clsR {D q : List (List Int)} {j : Nat} (h : j < q.length) : nth (clsR D q) j = (D.idxOf (xat q j) : Int) := by
  rw [nth_eq (by rw [clsR, List.length_map]; exact h)]
  simp [clsR, xat_eq h]
section
variable {n : Nat} {R : List (List (List Int))}
theorem VS.cls_inc (h : VS n R) {q : List (List Int)} (hq : q ∈ R) {j : Nat} (hj : j + 1 < q.length) : nth (clsR (dsL R) q) j < nth (clsR (dsL R) q) (j + 1) := by
  rw [nth_clsR (by omega), nth_clsR hj]
  have hm : ∀ k, k < q.length → xat q k ∈ dsL R := fun k hk => (srtL_perm _).mem_iff.2 (List.mem_flatten.2 ⟨q, hq, xat_mem hk⟩)
  obtain ⟨a1, a2⟩ := idx_at (hm j (by omega))
  obtain ⟨b1, b2⟩ := idx_at (hm (j + 1) hj)
  have hs := h.st q hq j hj
  rcases Nat.lt_trichotomy ((dsL R).idxOf (xat q j)) ((dsL R).idxOf (xat q (j + 1))) with h1 | h1 | h1
  · omega
  · rw [← a2, ← b2, h1, cmpI_self] at hs; omega
  · have := h.dst h1 a1
    rw [a2, b2] at this
    have h3 := cmpI_neg (xat q j) (xat q (j + 1))
    omega
theorem VS.cls_perm (h : VS n R) : (clsL (dsL R) R).flatten.Perm (idn (dsL R).length) := by
  have e1 : (clsL (dsL R) R).flatten = R.flatten.map fun p => ((dsL R).idxOf p : Int) := by
    rw [clsL, List.map_flatten]; rfl
  rw [e1]
  refine ((srtL_perm R.flatten).symm.map _).trans (List.Perm.of_eq ?_)
  apply List.ext_getElem
  · simp [idn_len, dsL]
  · intro j h1 h2
    rw [List.length_map] at h1
    have h1' : j < (dsL R).length := h1
    rw [List.getElem_map, idn_at h1']
    congr 1
    exact List.Nodup.idxOf_getElem h.dnd j h1
theorem VS.cls_srt (h : VS n R) : srt (clsL (dsL R) R).flatten = idn (dsL R).length :=
  sorted_eq ((srt_perm _).trans h.cls_perm) (srt_up _) (by
    rw [idn, List.pairwise_map]
    exact (List.pairwise_lt_range (n := _)).imp fun h => by omega)
theorem VS.rnd (h : VS n R) {q : List (List Int)} (hq : q ∈ R) : q.flatten.Nodup := by
  have hg : ∀ p ∈ q, p.Nodup := fun p hp => by
    have hG := gdP_t (h.gd q hq p hp)
    have := hG.lt
    rw [hG.eq]
    simp; omega
  rw [List.nodup_iff_pairwise_ne, List.pairwise_flatten]
  refine ⟨fun p hp => List.nodup_iff_pairwise_ne.1 (hg p hp), ?_⟩
  rw [List.pairwise_iff_getElem]
  intro i j hi hj hij x hx y hy e
  subst e
  have := h.dj q hq j hj i hij x (by rw [xat_eq hi]; exact hx)
  rw [xat_eq hj] at this
  exact this hy
theorem VS.rin (h : VS n R) {q : List (List Int)} (hq : q ∈ R) : ∀ x ∈ q.flatten, 0 ≤ x ∧ x < n := fun x hx => by
  obtain ⟨p, hp, hxp⟩ := List.mem_flatten.1 hx
  have hG := gdP_t (h.gd q hq p hp)
  have a1 := hG.lt
  have a2 := hG.lo
  have a3 := hG.hi
  rw [hG.eq] at hxp
  simp only [List.mem_cons, List.not_mem_nil, or_false] at hxp
  omega
theorem flat_two {q : List (List Int)} (h : ∀ p ∈ q, p.length = 2) : q.flatten.length = 2 * q.length := by
  induction q with
  | nil => rfl
  | cons p q ih =>
    rw [List.flatten_cons, List.length_append, h p (by simp), ih fun p hp => h p (by simp [hp]), List.length_cons]; omega
/-- n distinct numbers below n are all of them -/
theorem all_in {T : List Int} (hn : T.Nodup) (hi : ∀ x ∈ T, 0 ≤ x ∧ x < n) (hl : n ≤ T.length) {x : Nat} (hx : x < n) : (x : Int) ∈ T := by
  apply Classical.byContradiction
  intro hc
  have h1 : ((x : Int) :: T).Nodup := List.nodup_cons.2 ⟨hc, hn⟩
  have := List.Nodup.length_le_of_subset h1 (l₂ := idn n) fun y hy => by
    have : 0 ≤ y ∧ y < n := by
      rcases List.mem_cons.1 hy with e | hy
      · omega
      · exact hi y hy
    rw [idn, List.mem_map]
    exact ⟨y.toNat, List.mem_range.2 (by omega), by omega⟩
  rw [idn_len, List.length_cons] at this
  omega
theorem VS.rall (h : VS n R) {q : List (List Int)} (hq : q ∈ R) (hl : n ≤ 2 * q.length) {x : Nat} (hx : x < n) : (x : Int) ∈ q.flatten :=
  all_in (h.rnd hq) (h.rin hq) (by rw [flat_two fun p hp => (gdP_t (h.gd q hq p hp)).len]; exact hl) hx
end
end Go.Proofs.Ytgflhgkcmfjkgaa
end

section
/- Walks: slices.IndexFunc and slices.ContainsFunc on integers, for any function that only answers. -/
namespace Go.Proofs.Ytgflhgkcmfjkgaa
set_option linter.unusedSimpArgs false
set_option linter.unusedVariables false
open Go.RowKit

/-- the first place from k on at which p holds, or -1 -/
def idxP (p : Int → Bool) (xs : List Int) (k : Nat) : Int := match (xs.drop k).findIdx? p with | some j => (k + j : Nat) | none => -1
def anyP (p : Int → Bool) (xs : List Int) : Bool := xs.any p

theorem idxP_step {p : Int → Bool} {xs : List Int} {k : Nat} (hk : k < xs.length) (h : p (nth xs k) = false) : idxP p xs k = idxP p xs (k + 1) := by
  rw [idxP, drop_nth hk, List.findIdx?_cons, h]
  simp only [idxP]
  cases (xs.drop (k + 1)).findIdx? p <;> simp <;> omega
theorem idxP_hit {p : Int → Bool} {xs : List Int} {k : Nat} (hk : k < xs.length) (h : p (nth xs k) = true) : idxP p xs k = k := by
  rw [idxP, drop_nth hk, List.findIdx?_cons, h]; simp
theorem idxP_end {p : Int → Bool} {xs : List Int} {k : Nat} (hk : xs.length ≤ k) : idxP p xs k = -1 := by
  rw [idxP, List.drop_of_length_le hk]; rfl
theorem idxP_any {p : Int → Bool} {xs : List Int} : decide (0 ≤ idxP p xs 0) = anyP p xs := by
  unfold idxP anyP
  rw [List.drop_zero]
  cases h : xs.findIdx? p with
  | none =>
    have hn : xs.any p = false := by
      rw [Bool.eq_false_iff]; intro hc
      obtain ⟨x, hx, hp⟩ := List.any_eq_true.1 hc
      have := List.findIdx?_eq_none_iff.1 h x hx
      rw [this] at hp; cases hp
    rw [hn]; simp
  | some j =>
    have hy : xs.any p = true := by
      obtain ⟨hj, hp, _⟩ := List.findIdx?_eq_some_iff_getElem.1 h
      exact List.any_eq_true.2 ⟨_, List.getElem_mem hj, hp⟩
    rw [hy]; simp

end Go.Proofs.Ytgflhgkcmfjkgaa
end

section
/- Walks: squares that are made. -/
namespace Go.Proofs.Ytgflhgkcmfjkgaa
set_option linter.unusedSimpArgs false
set_option linter.unusedVariables false
open Go.RowKit

theorem Try.info_iss : (Try.prog.info? 33).map (fun i => (i.zero, i.size, i.bytes)) = some (some (.slice none 0 0), 1, 24) := by kernel_rfl
section
variable {ops : Array Oper} {rest : List Oper} {o : Oper} {a : Act} {Q : Exit → Act → World → Prop} {B : Nat} {w0 w : World} {L : List Ent}
/-- append of one square to an owned row of squares -/
theorem appIII (hS : St B w0 w L) (i : Nat) {v : Value} {us : List Value} (hi : L[i]? = some (row 33 v us)) (hN : us.length < 4294967296) (hg : o.guard = none) (s x : Operand)
    (hop : o.op = .call { callee := .builtin .append, args := #[s, x], argTypes := #[25, 25] }) (hs : a.eval s = v) (u : Value) (hu : u.oneCell' = true) (hx : a.eval x = .slice (some ⟨w.heap.size, 0, none⟩) 1 1)
    (hK : ∀ v' w', St B w0 w' (L.set i (row 33 v' (us ++ [u]))) → wpList Try.prog ops Q rest (a.put o.dst v') w') :
    wpList Try.prog ops Q (o :: rest) a (w.alloc (.cells #[u] 33)) :=
  wpList_st_app1 hg s x 25 hop 33 (.slice none 0 0) 24 Try.und_isss Try.info_iss rfl hS i hi hs u hx hu (by omega) hN hK
end
/-- behind the append of a square of its own -/
theorem own3_snoc {B : Nat} {w0 w : World} {v v' u : Value} {vs : List Value} {uss : List (List Value)} {X : List (List (List Int))} {us : List Value} {x : List (List Int)} (h1 : vs.length = X.length) (h2 : uss.length = X.length)
    (h : St B w0 w ((own3 v vs uss X ++ own2 u us x).set 0 (row 33 v' (vs ++ [u])))) : St B w0 w (own3 v' (vs ++ [u]) (uss ++ [us]) (X ++ [x])) := by
  rw [own3, rows3_app _ _ _ h1 h2]
  exact h
theorem Fit3.snoc {vs : List Value} {uss : List (List Value)} {X : List (List (List Int))} (h : Fit3 vs uss X) (v : Value) {us : List Value} {x : List (List Int)} (hx : us.length = x.length) : Fit3 (vs ++ [v]) (uss ++ [us]) (X ++ [x]) :=
  ⟨by simp [h.1], by simp [h.2.1], fun k hk => by
    by_cases e : k < X.length
    · have e1 : vsat (uss ++ [us]) k = vsat uss k := by unfold vsat; rw [List.getD_eq_getElem?_getD, List.getElem?_append_left (by rw [h.2.1]; exact e), ← List.getD_eq_getElem?_getD]
      have e2 : x3at (X ++ [x]) k = x3at X k := by unfold x3at; rw [List.getD_eq_getElem?_getD, List.getElem?_append_left e, ← List.getD_eq_getElem?_getD]
      rw [e1, e2]; exact h.2.2 k e
    · have hk' : k = X.length := by simp at hk; omega
      have e1 : vsat (uss ++ [us]) k = us := by unfold vsat; rw [hk', ← h.2.1]; simp
      have e2 : x3at (X ++ [x]) k = x := by unfold x3at; rw [hk']; simp
      rw [e1, e2]; exact hx⟩

theorem RdI.shq {w : World} {v : Value} {xs : List Int} (h : RdI w v xs) : ∃ a c, v = .slice a xs.length c := by
  obtain ⟨a, c, hv⟩ := h.sl.sh
  rw [iv_len] at hv
  exact ⟨a, c, hv⟩
/-- a square by its entries -/
def sqF (n : Nat) (f : Nat → Nat → Int) : List (List Int) := (List.range n).map fun x => tab n (f x)
theorem sqF_len (n : Nat) (f : Nat → Nat → Int) : (sqF n f).length = n := by simp [sqF]
theorem xat_sqF {n : Nat} {f : Nat → Nat → Int} {x : Nat} (h : x < n) : xat (sqF n f) x = tab n (f x) := by simp [sqF, xat, h]
theorem sqF_take {n : Nat} {f : Nat → Nat → Int} {k : Nat} (h : k < n) : (sqF n f).take (k + 1) = (sqF n f).take k ++ [tab n (f k)] := by
  rw [take_xat (by rw [sqF_len]; exact h), xat_sqF h]
theorem tab_succ (k : Nat) (f : Nat → Int) : tab (k + 1) f = tab k f ++ [f k] := by simp [tab, List.range_succ]
set_option maxHeartbeats 2000000 in
set_option maxRecDepth 100000 in
theorem filledSquare_c (K : FuncId) (caps : Array Value) (f : Nat → Nat → Int) (n : Nat) (w : World) (hn : n ≤ 4096)
    (hcf : ∀ (args : Array Value) (W : World), (callFunc K args).run Try.prog W = .ok (.enter K args) W)
    (hK : ∀ (x y : Nat) (W : World), St w.heap.size w W [] → x < n → y < n → Calls Try.prog K (#[.int .i64 x, .int .i64 y] ++ caps) W (GivesI W (f x y))) :
    Calls Try.prog 70 #[.int .i64 n, .func (.func K) #[] caps] w (MakesII w (sqF n f)) := by
  have HK := Lib.hid hK
  clear hK
  have hS0 := (St.refl w).newnil 30
  go_enter Try.func70, Try.ntmps70
  go_wp2_with fail
  go_loopw [5, 6, 7, 8] (fun o ii _ _ wr => ∃ (k : Nat) (us : List Value), k ≤ n ∧ ii = .int .i64 k ∧ Hid (us.length = k) ∧ St w.heap.size w wr (own2 o us ((sqF n f).take k))) (fun _ ii _ _ _ => n - (intOf ii).toNat)
  case atStart => exact ⟨0, [], by omega, rfl, rfl, hS0⟩
  case round =>
    obtain ⟨k, us, hk, rfl, hl, hS⟩ := hrel
    have Hlu := Lib.hid (show us.length = ((sqF n f).take k).length by rw [List.length_take, sqF_len, hl.out]; omega)
    by_cases hlt : k < n
    · have hS1 := (hS.newnil 2).perm List.perm_append_comm
      simp only [List.cons_append, List.nil_append] at hS1
      have Hst := Lib.hid (sqF_take (f := f) hlt)
      go_wp2_with fail
      go_loopw [7, 8] (fun r jj wx => ∃ j : Nat, j ≤ n ∧ jj = .int .i64 j ∧ St w.heap.size w wx (row 2 r (iv (tab j (f k))) :: own2 u5 us ((sqF n f).take k))) (fun _ jj _ => n - (intOf jj).toNat)
      case atStart => exact ⟨0, by omega, rfl, hS1⟩
      case round =>
        obtain ⟨j, hj, rfl, hS2⟩ := hrel
        by_cases hjn : j < n
        · have Hts := Lib.hid (tab_succ j (f k))
          have Htl := Lib.hid (show (tab j (f k)).length < 4294967296 by rw [tab_len]; omega)
          go_wp2_with fail
          refine (HK.out k j _ hS2.out hlt hjn).mono ?_
          rintro e w3 ⟨rfl, h3⟩
          have hS3 := hS2.call0 h3
          go_wp2_with (at_builtin; refine appI hS3 0 rfl Htl.out rfl _ _ rfl rfl _ rfl ?_; intro v4 w4 hS4)
          go_roundw
          case rel => exact ⟨j + 1, by omega, by go_num, by rw [Hts.out]; exact hS4⟩
          case measure => simp [intOf]; omega
        · have hje : j = n := by omega
          rw [hje] at hS2
          clear hje
          obtain ⟨ar, cr, hre⟩ := (hS2.rdI 0 rfl).shq
          subst hre
          have Htl := Lib.hid (show (tab n (f k)).length = n from tab_len _ _)
          go_wp2_with (at_builtin; refine appII hS2 1 rfl (by rw [hl.out]; omega) rfl _ _ rfl rfl _ rfl rfl ?_; intro v4 w4 hS4)
          go_roundw
          case rel =>
            refine ⟨k + 1, us ++ [.slice ar (tab n (f k)).length cr], by omega, by go_num, by simp [Hid, hl.out], ?_⟩
            rw [Hst.out, own2, rowsI_app Hlu.out]
            simp only [own2, List.set_cons_succ, List.set_cons_zero] at hS4
            exact hS4.perm (by (try simp only [own2, List.cons_append, List.nil_append, List.append_nil]); classical exact List.perm_iff_count.2 (fun a => by simp only [List.cons_append, List.nil_append, List.append_nil, List.count_append, List.count_cons, List.count_nil] <;> omega))
          case measure => simp [intOf]; omega
    · have hke : k = n := by omega
      have HL := Lib.hid (show us.length = (sqF n f).length by rw [hl.out, sqF_len, hke])
      rw [hke, List.take_of_length_le (by rw [sqF_len]; exact Nat.le_refl _)] at hS
      clear hke
      go_wp2_with fail
      go_ret
      exact ⟨_, us, rfl, HL.out, hS⟩
theorem emptySquare1_c (x y : Int) (w : World) : Calls Try.prog 71 #[.int .i64 x, .int .i64 y] w (GivesI w 0) := by
  go_enter Try.func71, Try.ntmps71
  go_wp2_with fail
  go_ret
  exact ⟨rfl, St.refl w⟩
theorem emptySquare_c (n : Nat) (w : World) (hn : n ≤ 4096) : Calls Try.prog 36 #[.int .i64 n] w (MakesII w (sqF n fun _ _ => 0)) := by
  have hcf := callFunc_go Try.func71 (by kernel_rfl) (by kernel_rfl)
  have hcall := Lib.hid (filledSquare_c 71 #[] (fun _ _ => 0) n w hn hcf (fun x y W _ _ _ => emptySquare1_c x y W))
  clear hcf
  go_enter Try.func36, Try.ntmps36
  go_wp2_with fail
  refine hcall.out.mono ?_
  rintro e w1 ⟨v, us, rfl, hl, h1⟩
  have Hl := Lib.hid hl
  clear hl
  go_wp2_with fail
  go_ret
  exact ⟨v, us, rfl, Hl.out, h1⟩
end Go.Proofs.Ytgflhgkcmfjkgaa
end

section
/- Comparison of lists: slices.Compare, the reference's CompareLists, slices.IsSortedFunc. -/
namespace Go.Proofs.Ytgflhgkcmfjkgaa
set_option linter.unusedSimpArgs false
set_option linter.unusedVariables false
open Go.RowKit

theorem isNaNC_c (x : Int) (w : World) : Calls Try.prog 108 #[.int .i64 x] w fun e w' => e = .returned (.bool false) ∧ w = w' := by
  have h := ne_f (rfl : x = x)
  go_enter Try.func108, Try.ntmps108
  go_wp2_with fail
  go_ret
  exact ⟨rfl, rfl⟩
def cmp1 (x y : Int) : Int := if x < y then -1 else if y < x then 1 else 0
theorem cmpC_c (x y : Int) (w : World) : Calls Try.prog 69 #[.int .i64 x, .int .i64 y] w fun e w' => e = .returned (.int .i64 (cmp1 x y)) ∧ w = w' := by
  by_cases h1 : x < y
  · rw [cmp1, if_pos h1]
    go_enter Try.func69, Try.ntmps69
    go_wp2_with (go_at_call 108; refine (isNaNC_c _ _).mono ?_; rintro e w3 ⟨rfl, rfl⟩)
    go_ret
    exact ⟨rfl, rfl⟩
  · by_cases h2 : y < x
    · rw [cmp1, if_neg h1, if_pos h2]
      go_enter Try.func69, Try.ntmps69
      go_wp2_with (go_at_call 108; refine (isNaNC_c _ _).mono ?_; rintro e w3 ⟨rfl, rfl⟩)
      go_ret
      exact ⟨rfl, rfl⟩
    · rw [cmp1, if_neg h1, if_neg h2]
      go_enter Try.func69, Try.ntmps69
      go_wp2_with (go_at_call 108; refine (isNaNC_c _ _).mono ?_; rintro e w3 ⟨rfl, rfl⟩)
      go_ret
      exact ⟨rfl, rfl⟩
theorem cmpI_drop {xs ys : List Int} {k : Nat} (h1 : k < xs.length) (h2 : k < ys.length) : cmpI (xs.drop k) (ys.drop k) = if cmp1 (nth xs k) (nth ys k) ≠ 0 then cmp1 (nth xs k) (nth ys k) else cmpI (xs.drop (k + 1)) (ys.drop (k + 1)) := by
  rw [drop_nth h1, drop_nth h2, cmpI, cmp1]
  by_cases h : nth xs k < nth ys k
  · rw [if_pos h, if_pos h, if_pos (by omega)]
  · rw [if_neg h, if_neg h]
    by_cases h' : nth ys k < nth xs k
    · rw [if_pos h', if_pos h', if_pos (by omega)]
    · rw [if_neg h', if_neg h', if_neg (by omega)]
theorem cmpI_e1 {xs ys : List Int} {k : Nat} (h1 : k < xs.length) (h2 : ys.length ≤ k) : cmpI (xs.drop k) (ys.drop k) = 1 := by
  rw [drop_nth h1, List.drop_of_length_le h2]; rfl
theorem cmpI_e2 {xs ys : List Int} {k : Nat} (h1 : xs.length ≤ k) (h2 : k < ys.length) : cmpI (xs.drop k) (ys.drop k) = -1 := by
  rw [drop_nth h2, List.drop_of_length_le h1]; rfl
theorem cmpI_e3 {xs ys : List Int} {k : Nat} (h1 : xs.length ≤ k) (h2 : ys.length ≤ k) : cmpI (xs.drop k) (ys.drop k) = 0 := by
  rw [List.drop_of_length_le h2, List.drop_of_length_le h1]; rfl
set_option maxHeartbeats 1000000 in
set_option maxRecDepth 100000 in
theorem Compare_c (va vb : Value) (xs ys : List Int) (w : World) (ha : RdI w va xs) (hb : RdI w vb ys) :
    Calls Try.prog 35 #[va, vb] w fun e w' => e = .returned (.int .i64 (cmpI xs ys)) ∧ w = w' := by
  have hla := ha.len
  have hlb := hb.len
  have hia := ha.ix
  have hib := hb.ix
  have hca := ha.cell
  have hcb := hb.cell
  have hma := ha.le
  have hmb := hb.le
  go_enter Try.func35, Try.ntmps35
  go_wp2_with fail
  go_loop [5, 6, 7, 8, 11] (fun _ _ _ _ i => ∃ k : Nat, k ≤ xs.length ∧ k ≤ ys.length ∧ i = .int .i64 k ∧ Hid (cmpI (xs.drop k) (ys.drop k) = cmpI xs ys)) (fun _ _ _ _ i => xs.length - (intOf i).toNat)
  case atStart => exact ⟨0, by omega, by omega, rfl, rfl⟩
  case round =>
    obtain ⟨k, hk, hk2, rfl, hI⟩ := hrel
    by_cases k1 : k < xs.length
    · by_cases k2 : k < ys.length
      · have hd := cmpI_drop k1 k2
        by_cases hc : cmp1 (nth xs k) (nth ys k) = 0
        · rw [if_neg (by omega), hI.out] at hd
          have HD := Lib.hid hd
          have HC := Lib.hid hc
          clear hd hc
          go_wp2_with (go_at_call 69; refine (cmpC_c _ _ _).mono ?_; rw [HC.out]; rintro e w3 ⟨rfl, rfl⟩)
          go_round
          case rel => exact ⟨k + 1, by omega, by omega, by go_num, HD.out.symm⟩
          case measure => simp [intOf]; omega
        · rw [if_pos hc, hI.out] at hd
          have HD := Lib.hid hd
          clear hd
          go_wp2_with (go_at_call 69; refine (cmpC_c _ _ _).mono ?_; rintro e w3 ⟨rfl, rfl⟩)
          go_ret
          exact ⟨by rw [HD.out]; rfl, rfl⟩
      · have HD := Lib.hid (cmpI_e1 k1 (show ys.length ≤ k by omega))
        rw [hI.out] at HD
        go_wp2_with fail
        go_ret
        exact ⟨by rw [HD.out]; rfl, rfl⟩
    · by_cases k2 : k < ys.length
      · have HD := Lib.hid (cmpI_e2 (show xs.length ≤ k by omega) k2)
        rw [hI.out] at HD
        go_wp2_with fail
        go_ret
        exact ⟨by rw [HD.out]; rfl, rfl⟩
      · have HD := Lib.hid (cmpI_e3 (show xs.length ≤ k by omega) (show ys.length ≤ k by omega))
        rw [hI.out] at HD
        go_wp2_with fail
        go_ret
        exact ⟨by rw [HD.out]; rfl, rfl⟩

theorem srtB_no {A : List (List Int)} {k : Nat} (h : k + 1 < A.length) (hc : leL (xat A k) (xat A (k + 1)) = false) : srtB A = false := by
  cases hs : srtB A with
  | false => rfl
  | true =>
    have := List.pairwise_iff_getElem.1 (srtB_pw.1 hs) k (k + 1) (by omega) h (by omega)
    rw [xat_eq (show k < A.length by omega), xat_eq h, this] at hc
    cases hc
set_option maxHeartbeats 2000000 in
set_option maxRecDepth 100000 in
theorem IsSortedR_c (v : Value) (us : List Value) (A : List (List Int)) (w : World) (hv : RII w v us A) :
    Calls Try.prog 76 #[v, .func (.func 35) #[] #[]] w (GivesB w (srtB A)) := by
  have hcf : ∀ (args : Array Value) (W : World), (callFunc 35 args).run Try.prog W = .ok (.enter 35 args) W :=
    fun args W => callFunc_go (P := Try.prog) Try.func35 (by kernel_rfl) (by kernel_rfl) args W
  have hln := hv.len
  have hix := hv.ixe
  have hm := hv.le
  by_cases h0 : A.length = 0
  · have hA : Hid (srtB A = true) := by rw [List.eq_nil_of_length_eq_zero h0]; rfl
    go_enter Try.func76, Try.ntmps76
    go_wp2_with fail
    go_loopw [5] (fun i wr => i = .int .i64 (-1) ∧ St w.heap.size w wr []) (fun _ _ => 0)
    case atStart => exact ⟨by go_num, St.refl w⟩
    case round =>
      obtain ⟨rfl, hS⟩ := hrel
      go_wp2_with fail
      go_ret
      exact ⟨ret_bool hA.out.symm, hS⟩
  · go_enter Try.func76, Try.ntmps76
    go_wp2_with fail
    go_loopw [5] (fun i wr => ∃ k : Nat, k + 1 ≤ A.length ∧ i = .int .i64 k ∧ Hid (srtB (A.drop k) = true) ∧ St w.heap.size w wr []) (fun i _ => (intOf i).toNat)
    case atStart => exact ⟨A.length - 1, by omega, by go_num, by
      have : A.drop (A.length - 1) = [xat A (A.length - 1)] := by rw [drop_xat (show A.length - 1 < A.length by omega), List.drop_of_length_le (by omega)]
      rw [Hid, this]; rfl, St.refl w⟩
    case round =>
      obtain ⟨k, hk, rfl, hI, hS⟩ := hrel
      by_cases hk0 : 0 < k
      · obtain ⟨m, hmk⟩ : ∃ m, m + 1 = k := ⟨k - 1, by omega⟩
        have R1 := Lib.hid fun s : SS w.heap.size w [] => (s.st.oldII hv).row k (by omega)
        have R0 := Lib.hid fun s : SS w.heap.size w [] => (s.st.oldII hv).row m (by omega)
        have hq1 := fun s : SS w.heap.size w [] => (s.st.oldII hv).cell k (by omega)
        have hq0 := fun s : SS w.heap.size w [] => (s.st.oldII hv).cell m (by omega)
        have x1 := hix (k : Int) k rfl (by omega)
        have x0 := hix ((k : Int) - 1) m (by omega) (by omega)
        have hw : IntKind.i64.wrap ((k : Int) - 1) = ((k : Int) - 1) := IntWalk.i64_in _ (by omega)
        have Hmk := Lib.hid hmk
        have hd := srtB_drop (A := A) (k := m) (by omega)
        rw [hmk, hI.out, Bool.and_true] at hd
        have hno : leL (xat A m) (xat A k) = false → srtB A = false := fun h => srtB_no (k := m) (by omega) (by rw [hmk]; exact h)
        clear hmk
        cases hc : leL (xat A m) (xat A k)
        · have hlt : cmpI (xat A k) (xat A m) < 0 := by
            have := of_decide_eq_false hc
            have := cmpI_neg (xat A m) (xat A k); omega
          have HN := Lib.hid (hno hc)
          clear hd hc hno
          go_wp2_with fail
          have hne : Nonempty (SS _ _ _) := ⟨⟨_, hS⟩⟩
          refine wp_region_st (by kernel_rfl) (by kernel_rfl) hS ?_
          repeat (go_big_quiet_step ((go_at_call 35; exact st_quiet0 (Compare_c _ _ _ _ _ (R1.out _) (R0.out _)))))
          refine wpQuiet_nil ?_
          rintro _ ⟨s2, rfl⟩
          have hS2 := s2.st
          generalize s2.w = w2 at hS2 ⊢
          go_wp2_with fail
          go_ret
          exact ⟨ret_bool HN.out.symm, hS2⟩
        · have hlt : ¬ cmpI (xat A k) (xat A m) < 0 := by
            have := of_decide_eq_true hc
            have := cmpI_neg (xat A m) (xat A k); omega
          rw [hc] at hd
          have HD := Lib.hid hd
          clear hd hc hno
          go_wp2_with fail
          have hne : Nonempty (SS _ _ _) := ⟨⟨_, hS⟩⟩
          refine wp_region_st (by kernel_rfl) (by kernel_rfl) hS ?_
          repeat (go_big_quiet_step ((go_at_call 35; exact st_quiet0 (Compare_c _ _ _ _ _ (R1.out _) (R0.out _)))))
          refine wpQuiet_nil ?_
          rintro _ ⟨s2, rfl⟩
          have hS2 := s2.st
          generalize s2.w = w2 at hS2 ⊢
          go_wp2_with fail
          go_roundw
          case rel => exact ⟨m, by have := Hmk.out; omega, by rw [← Hmk.out]; go_num, HD, hS2⟩
          case measure => (have := Hmk.out; simp [intOf]; omega)
      · obtain rfl : k = 0 := by omega
        go_wp2_with fail
        go_ret
        exact ⟨ret_bool (by rw [← hI.out]; rfl), hS⟩
end Go.Proofs.Ytgflhgkcmfjkgaa
end

section
/- make inside a region that draws its order. A region that loads cells and writes them by its last stores: what is held of the world is asked until the first of these stores alone. A region that loads cells and writes them at its end: an operation taken first, by a chain of operations that wait for each other. -/
namespace Go.Proofs.Ytgflhgkcmfjkgaa
set_option linter.unusedSimpArgs false
set_option linter.unusedVariables false
open Go.RowKit
theorem cell_dr {w : World} {a : Addr} {v : Value} (h : w.cell? a = some v) : w.drew.cell? a = some v := h
section
variable {P : Program} {ops : Array Oper} {o : Oper} {a : Act} {K : Act → World → Prop} {Q : Exit → Act → World → Prop} {E : Prop}
end
section
variable {ops : Array Oper} {o : Oper} {a : Act} {K : Act → World → Prop} {Q : Exit → Act → World → Prop} {E : Prop} {B : Nat} {w0 w : World} {L : List Ent}
end

section
variable {P : Program} {ops : Array Oper} {Q : Exit → Act → World → Prop} {md : Region.Mode} {S : World → Prop} {st : Nat}

/-- whichever order is picked; S is shown behind every operation till operation st has come up -/
def anyG (P : Program) (md : Region.Mode) (ops : Array Oper) (Q : Exit → Act → World → Prop) (S : World → Prop) (st : Nat) : Nat → Array Bool → Act → World → Prop
  | 0, listed, a, w => Region.ready md ops listed = [] ∧ Q .normal a w
  | n + 1, listed, a, w => (Region.ready md ops listed = [] → Q .normal a w) ∧
    ∀ i ∈ Region.ready md ops listed, wpOp P ops Q i (fun a' w' => ((listed.setIfInBounds i true).getD st true = false → S w') ∧ anyG P md ops Q S st n (listed.setIfInBounds i true) a' w') a w

theorem wpAny_of_G : ∀ (n : Nat) (listed : Array Bool) (a : Act) (w : World), anyG P md ops Q S st n listed a w → wpAny P md ops Q n listed a w
  | 0, _, _, _, h => h
  | n + 1, _, _, _, h => ⟨h.1, fun i hi => wpOp_mono (fun a' w' h' => wpAny_of_G n _ a' w' h'.2) (h.2 i hi)⟩

theorem set_un {listed : Array Bool} {j k : Nat} (hne : j ≠ k) (h : listed.getD k true = false) : (listed.setIfInBounds j true).getD k true = false := by rw [getD_set_ne true hne]; exact h
/-- what waits for an operation that has not come up cannot come up -/
theorem not_ready {listed : Array Bool} {j k : Nat} (hk : listed.getD k true = false) (hw : ∃ o, ops[j]? = some o ∧ ∃ e ∈ o.after, Region.binds md e = true ∧ e.on = k) : j ∉ Region.ready md ops listed := by
  intro h
  obtain ⟨_, o, ho, hall⟩ := mem_ready.1 h
  obtain ⟨o', ho', e, he, hb, rfl⟩ := hw
  rw [ho] at ho'; cases ho'
  have h1 := hall e he hb
  rcases Nat.lt_or_ge e.on listed.size with h' | h'
  · simp [h'] at hk h1; rw [hk] at h1; cases h1
  · simp [Array.getElem?_eq_none h'] at h1

/-- an operation that yields in whatever world may be taken first -/
theorem anyG_pure {i : Nat} {oi : Oper} {v : Value} (hi : ops[i]? = some oi) (hsel : ∀ (j : Nat) (o : Oper) cs b, ops[j]? = some o → o.op ≠ .select cs b)
    (hQ : ∀ c a w, Q (.panic c) (a.put oi.dst v) w → Q (.panic c) a w) (hne : i ≠ st) :
    ∀ (n : Nat) (listed : Array Bool) (a : Act) (w : World),
      (∀ j oj, ops[j]? = some oj → j ≠ i → listed.getD j true = false → (∀ e ∈ oj.after, Region.binds md e = true → e.on ≠ i) → oi.apart ops oj = true) →
      i ∈ Region.ready md ops listed → YieldsIf P ops (fun _ => True) oi v a → (listed.getD st true = false → S w) →
      anyG P md ops Q S st n (listed.setIfInBounds i true) (a.put oi.dst v) w → anyG P md ops Q S st (n + 1) listed a w := by
  intro n
  induction n with
  | zero =>
    intro listed a w _ hr hy hS H
    refine ⟨fun h => (by rw [h] at hr; cases hr), fun j hj => ?_⟩
    by_cases hji : j = i
    · subst hji; exact hy.wpOp hi trivial ⟨fun e => hS (by rwa [getD_set_ne true hne] at e), H⟩
    · have := ready_mono hj hji
      rw [H.1] at this
      cases this
  | succ n ih =>
    intro listed a w hfree hr hy hS H
    have hiu : listed.getD i true = false := (mem_ready.1 hr).1
    refine ⟨fun h => (by rw [h] at hr; cases hr), fun j hj => ?_⟩
    by_cases hji : j = i
    · subst hji; exact hy.wpOp hi trivial ⟨fun e => hS (by rwa [getD_set_ne true hne] at e), H⟩
    · have h1 := H.2 j (ready_mono hj hji)
      obtain ⟨hjun, oj, hoj, hall⟩ := mem_ready.1 hj
      have hnot : ∀ e ∈ oj.after, Region.binds md e = true → e.on ≠ i := fun e he hb heq => not_ready hiu ⟨oj, hoj, e, he, hb, heq⟩ hj
      have h2 := wpOp_putIf hoj (hfree j oj hoj hji hjun hnot) (fun cs b => hsel i oi cs b hi) (fun cs b => hsel j oj cs b hoj) hQ hy h1
      refine wpOp_mono (fun a' w' h3 => ?_) h2
      have hSw : (listed.setIfInBounds j true).getD st true = false → S w' := fun e => h3.2.1 (by rw [Array.setIfInBounds_comm _ _ (Ne.symm hji), getD_set_ne true hne]; exact e)
      refine ⟨hSw, ih (listed.setIfInBounds j true) a' w' ?_ (ready_mono hr (Ne.symm hji)) h3.1 hSw ?_⟩
      · intro m om hm hmi hun hno
        refine hfree m om hm hmi ?_ hno
        by_cases hjm : j = m
        · subst hjm; exact hjun
        · rwa [getD_set_ne true hjm] at hun
      · rw [Array.setIfInBounds_comm _ _ hji]
        exact h3.2.2
/-- number i is taken first, whatever the world -/
theorem takeP {i : Nat} {oi : Oper} {v : Value} {n : Nat} {listed : Array Bool} {a : Act} {w : World} (hi : ops[i]? = some oi)
    (hs : (Region.noSelect ops && Region.free md ops listed i && (Region.ready md ops listed).contains i && (!(i == st))) = true)
    (hQ : ∀ c a w, Q (.panic c) (a.put oi.dst v) w → Q (.panic c) a w) (hw : Region.wanted oi (yielded ops a.tmps) = true) (hy : ∀ w, (execOp a.eval oi).run P w = .ok (.value v) w) (hS : S w)
    (h : anyG P md ops Q S st n (listed.setIfInBounds i true) (a.put oi.dst v) w) : anyG P md ops Q S st (n + 1) listed a w := by
  simp only [Bool.and_eq_true, Bool.not_eq_true', beq_eq_false_iff_ne] at hs
  obtain ⟨⟨⟨h1, h2⟩, h3⟩, h4⟩ := hs
  exact anyG_pure hi (Region.noSelect_spec h1) hQ h4 n listed a w (Region.free_spec hi h2) (by simpa using h3) (.inl ⟨hw, fun w _ => hy w⟩) (fun _ => hS) h

def waits (md : Region.Mode) (ops : Array Oper) (j k : Nat) : Bool := match ops[j]? with
  | some o => o.after.any fun e => Region.binds md e && e.on == k
  | none => false
theorem waits_spec {j k : Nat} (h : waits md ops j k = true) : ∃ o, ops[j]? = some o ∧ ∃ e ∈ o.after, Region.binds md e = true ∧ e.on = k := by
  unfold waits at h
  cases ho : ops[j]? with
  | none => rw [ho] at h; cases h
  | some o =>
    rw [ho] at h
    simp only [Array.any_eq_true', Bool.and_eq_true, beq_iff_eq] at h
    obtain ⟨e, he, hb, hk⟩ := h
    exact ⟨o, rfl, e, he, hb, hk⟩
def AllG (P : Program) (md : Region.Mode) (ops : Array Oper) (Q : Exit → Act → World → Prop) (S : World → Prop) (st n : Nat) (listed : Array Bool) (a : Act) (w : World) (rs : List Nat) : Prop :=
  ∀ i ∈ rs, wpOp P ops Q i (fun a' w' => ((listed.setIfInBounds i true).getD st true = false → S w') ∧ anyG P md ops Q S st n (listed.setIfInBounds i true) a' w') a w
theorem AllG.nil {n : Nat} {listed : Array Bool} {a : Act} {w : World} : AllG P md ops Q S st n listed a w [] := fun _ h => by cases h
/-- an operation ahead of st -/
theorem AllG.cons {n : Nat} {listed : Array Bool} {a : Act} {w : World} {i : Nat} {o : Oper} {rs : List Nat} (ho : ops[i]? = some o)
    (h : ∀ K' : Act → World → Prop, Shut (∀ a w, S w → (S w → anyG P md ops Q S st n (listed.setIfInBounds i true) a w) → K' a w) → if Region.wanted o (yielded ops a.tmps) = true then Oper.wp P o a w K' Q else K' (a.put o.dst undef) w)
    (hs : AllG P md ops Q S st n listed a w rs) : AllG P md ops Q S st n listed a w (i :: rs) := fun j hj => by
  rcases List.mem_cons.1 hj with rfl | hj
  · exact wpOp_step ho (fun K' hK => h K' (fun a w hS hW => hK a w ⟨fun _ => hS, hW hS⟩))
  · exact hs j hj
/-- st itself, or one behind it -/
theorem AllG.last {n : Nat} {listed : Array Bool} {a : Act} {w : World} {i : Nat} {o : Oper} {rs : List Nat} (ho : ops[i]? = some o) (hl : (listed.setIfInBounds i true).getD st true = true)
    (h : ∀ K' : Act → World → Prop, Shut (∀ a w, anyG P md ops Q S st n (listed.setIfInBounds i true) a w → K' a w) → if Region.wanted o (yielded ops a.tmps) = true then Oper.wp P o a w K' Q else K' (a.put o.dst undef) w)
    (hs : AllG P md ops Q S st n listed a w rs) : AllG P md ops Q S st n listed a w (i :: rs) := fun j hj => by
  rcases List.mem_cons.1 hj with rfl | hj
  · exact wpOp_step ho (fun K' hK => h K' (fun a w hW => hK a w ⟨fun e => (by rw [hl] at e; cases e), hW⟩))
  · exact hs j hj
theorem readyG {rs : List Nat} {n : Nat} {listed : Array Bool} {a : Act} {w : World} (hr : Region.ready md ops listed = rs) (hne : rs ≠ [])
    (h : AllG P md ops Q S st n listed a w rs) : anyG P md ops Q S st (n + 1) listed a w := ⟨fun h0 => absurd (hr ▸ h0) hne, hr ▸ h⟩
theorem doneG {listed : Array Bool} {a : Act} {w : World} (hr : Region.ready md ops listed = []) (h : Q .normal a w) : ∀ n, anyG P md ops Q S st n listed a w
  | 0 => ⟨hr, h⟩
  | _ + 1 => ⟨fun _ => h, by rw [hr]; simp⟩
/-- the beginning -/
theorem regionG {id : Nat} {a : Act} {w : World} (S : World → Prop) (st : Nat) (hm : P.follows .mixedOrders = true) (hS : S w.drew)
    (h : S w.drew → anyG P .any ops (NoPanic Q) S st ops.size (Array.replicate ops.size false) a w.drew) : (Code.region id ops true).wp P Q a w :=
  wp_region_noPanic (wp_region_any hm (wpAny_of_G _ _ _ _ (h hS)))
end

section
variable {P : Program} {ops : Array Oper} {Q : Exit → Act → World → Prop} {md : Region.Mode} {S : World → Prop} {st : Nat}
theorem anyG_firstL {i : Nat} {oi : Oper} {v : Value} (ks : List Nat) (hi : ops[i]? = some oi) (hsel : ∀ (j : Nat) (o : Oper) cs b, ops[j]? = some o → o.op ≠ .select cs b)
    (hQ : ∀ c a w, Q (.panic c) (a.put oi.dst v) w → Q (.panic c) a w)
    (hks : ∀ k ∈ ks, k = i ∨ ∃ m ∈ i :: ks, ∃ o, ops[k]? = some o ∧ ∃ e ∈ o.after, Region.binds md e = true ∧ e.on = m) (hst : ∃ m ∈ i :: ks, ∃ o, ops[st]? = some o ∧ ∃ e ∈ o.after, Region.binds md e = true ∧ e.on = m) :
    ∀ (n : Nat) (listed : Array Bool) (a : Act) (w : World), (∀ k ∈ ks, listed.getD k true = false) → listed.getD st true = false →
      (∀ j oj, ops[j]? = some oj → j ≠ i → listed.getD j true = false → (∀ e ∈ oj.after, Region.binds md e = true → e.on ≠ i) → oi.apart ops oj = true) →
      i ∈ Region.ready md ops listed → YieldsIf P ops S oi v a → S w →
      anyG P md ops Q S st n (listed.setIfInBounds i true) (a.put oi.dst v) w → anyG P md ops Q S st (n + 1) listed a w := by
  intro n
  induction n with
  | zero =>
    intro listed a w hk hs _ hr hy hS H
    refine ⟨fun h => (by rw [h] at hr; cases hr), fun j hj => ?_⟩
    by_cases hji : j = i
    · subst hji; exact hy.wpOp hi hS ⟨fun _ => hS, H⟩
    · have := ready_mono hj hji
      rw [H.1] at this
      cases this
  | succ n ih =>
    intro listed a w hk hs hfree hr hy hS H
    have hiu : listed.getD i true = false := (mem_ready.1 hr).1
    have hun : ∀ m ∈ i :: ks, listed.getD m true = false := fun m hm => by
      rcases List.mem_cons.1 hm with rfl | hm
      · exact hiu
      · exact hk m hm
    refine ⟨fun h => (by rw [h] at hr; cases hr), fun j hj => ?_⟩
    by_cases hji : j = i
    · subst hji; exact hy.wpOp hi hS ⟨fun _ => hS, H⟩
    · have hjk : j ∉ ks := by
        intro hjm
        rcases hks j hjm with e | ⟨m, hm, hw⟩
        · exact hji e
        · exact not_ready (hun m hm) hw hj
      obtain ⟨ms, hms, hws⟩ := hst
      have hjs : j ≠ st := by
        rintro rfl
        exact not_ready (hun ms hms) hws hj
      have h1 := H.2 j (ready_mono hj hji)
      obtain ⟨hjun, oj, hoj, hall⟩ := mem_ready.1 hj
      have hnot : ∀ e ∈ oj.after, Region.binds md e = true → e.on ≠ i := fun e he hb heq => not_ready hiu ⟨oj, hoj, e, he, hb, heq⟩ hj
      have h2 := wpOp_putIf hoj (hfree j oj hoj hji hjun hnot) (fun cs b => hsel i oi cs b hi) (fun cs b => hsel j oj cs b hoj) hQ hy h1
      have hsj : (listed.setIfInBounds j true).getD st true = false := set_un hjs hs
      refine wpOp_mono (fun a' w' h3 => ?_) h2
      have hSw : S w' := h3.2.1 (set_un hjs (set_un (fun e => by subst e; exact not_ready (hun ms hms) hws hr) hs))
      refine ⟨fun _ => hSw, ih (listed.setIfInBounds j true) a' w' (fun k hkm => set_un (fun e => hjk (e ▸ hkm)) (hk k hkm)) hsj ?_ (ready_mono hr (Ne.symm hji)) h3.1 hSw ?_⟩
      · intro m om hm hmi hun hno
        refine hfree m om hm hmi ?_ hno
        by_cases hjm : j = m
        · subst hjm; exact hjun
        · rwa [getD_set_ne true hjm] at hun
      · rw [Array.setIfInBounds_comm _ _ hji]
        exact h3.2.2
/-- number i is taken first; ks: operations that wait for it, for each other, and st for one of them -/
theorem takeH {i : Nat} (ks : List Nat) {oi : Oper} {v : Value} {n : Nat} {listed : Array Bool} {a : Act} {w : World} (hi : ops[i]? = some oi)
    (hs : (Region.noSelect ops && Region.free md ops listed i && (Region.ready md ops listed).contains i && (ks.all fun k => k == i || (i :: ks).any fun m => waits md ops k m) && ((i :: ks).any fun m => waits md ops st m) && (ks.all fun k => !listed.getD k true) && (!listed.getD st true)) = true)
    (hQ : ∀ c a w, Q (.panic c) (a.put oi.dst v) w → Q (.panic c) a w) (hw : Region.wanted oi (yielded ops a.tmps) = true) (hy : ∀ w, S w → (execOp a.eval oi).run P w = .ok (.value v) w) (hS : S w)
    (h : anyG P md ops Q S st n (listed.setIfInBounds i true) (a.put oi.dst v) w) : anyG P md ops Q S st (n + 1) listed a w := by
  simp only [Bool.and_eq_true, Bool.not_eq_true', Bool.or_eq_true, beq_iff_eq, List.all_eq_true] at hs
  obtain ⟨⟨⟨⟨⟨⟨h1, h2⟩, h3⟩, h4⟩, h5⟩, h6⟩, h7⟩ := hs
  refine anyG_firstL ks hi (Region.noSelect_spec h1) hQ (fun k hk => ?_) ?_ n listed a w h6 h7 (Region.free_spec hi h2) (by simpa using h3) (.inl ⟨hw, hy⟩) hS h
  · rcases h4 k hk with e | e
    · exact .inl e
    · obtain ⟨m, hm, hmw⟩ := List.any_eq_true.1 e
      exact .inr ⟨m, hm, waits_spec hmw⟩
  · obtain ⟨m, hm, hmw⟩ := List.any_eq_true.1 h5
    exact ⟨m, hm, waits_spec hmw⟩
end

end Go.Proofs.Ytgflhgkcmfjkgaa
end

section
/- slices.SortFunc at [][]int64 with slices.Compare: rows that a call owns, put in order; slices.IsSortedFunc. -/
namespace Go.Proofs.Ytgflhgkcmfjkgaa
set_option linter.unusedSimpArgs false
set_option linter.unusedVariables false
open Go.RowKit
attribute [local go_sem ↓] Go.wp_at_zero Go.wp_at_succ

def Try.mSortR_ren : Go.Shelf.Ren := ⟨fun | 6 => 34 | 15 => 68 | 14 => 67 | 28 => 106 | 29 => 107 | 20 => 98 | 21 => 99 | 22 => 100 | 23 => 101 | 24 => 102 | 25 => 103 | 26 => 104 | 27 => 105 | 46 => 126 | 47 => 127 | 48 => 128 | 49 => 129 | 50 => 130 | 57 => 135 | n => n, fun | 22 => 33 | 24 => 30 | 25 => 67 | 3 => 3 | 39 => 105 | 0 => 0 | 53 => 133 | 55 => 99 | 4 => 4 | 46 => 127 | 45 => 126 | 50 => 73 | 5 => 5 | 9 => 9 | 66 => 146 | 70 => 150 | 76 => 155 | 77 => 156 | n => n, fun | n => n⟩
theorem Try.mSortR : Go.Proofs.SlLaysF.n6 Try.prog Try.mSortR_ren := {
  mixed := by kernel_rfl
  f6 := ⟨Try.f34.name, by decide, Try.func34.trans (congrArg some (by kernel_rfl))⟩
  f14 := ⟨Try.f67.name, by decide, Try.func67.trans (congrArg some (by kernel_rfl))⟩
  f15 := Try.func68.trans (congrArg some (by kernel_rfl))
  f20 := ⟨Try.f98.name, by decide, Try.func98.trans (congrArg some (by kernel_rfl))⟩
  f21 := ⟨Try.f99.name, by decide, Try.func99.trans (congrArg some (by kernel_rfl))⟩
  f22 := ⟨Try.f100.name, by decide, Try.func100.trans (congrArg some (by kernel_rfl))⟩
  f23 := ⟨Try.f101.name, by decide, Try.func101.trans (congrArg some (by kernel_rfl))⟩
  f24 := ⟨Try.f102.name, by decide, Try.func102.trans (congrArg some (by kernel_rfl))⟩
  f25 := ⟨Try.f103.name, by decide, Try.func103.trans (congrArg some (by kernel_rfl))⟩
  f26 := ⟨Try.f104.name, by decide, Try.func104.trans (congrArg some (by kernel_rfl))⟩
  f27 := ⟨Try.f105.name, by decide, Try.func105.trans (congrArg some (by kernel_rfl))⟩
  f28 := Try.func106.trans (congrArg some (by kernel_rfl))
  f29 := Try.func107.trans (congrArg some (by kernel_rfl))
  f46 := ⟨Try.f126.name, by decide, Try.func126.trans (congrArg some (by kernel_rfl))⟩
  f47 := Try.func127.trans (congrArg some (by kernel_rfl))
  f48 := Try.func128.trans (congrArg some (by kernel_rfl))
  f49 := ⟨Try.f129.name, by decide, Try.func129.trans (congrArg some (by kernel_rfl))⟩
  f50 := ⟨Try.f130.name, by decide, Try.func130.trans (congrArg some (by kernel_rfl))⟩
  f57 := ⟨Try.f135.name, by decide, Try.func135.trans (congrArg some (by kernel_rfl))⟩
  t0 := Try.underlying0
  a0 := Try.isAgg0
  z0 := Try.sizeOf0
  v0 := Try.zeroValue0
  t3 := Try.underlying3
  a3 := Try.isAgg3
  z3 := Try.sizeOf3
  v3 := Try.zeroValue3
  t4 := Try.underlying4
  a4 := Try.isAgg4
  z4 := Try.sizeOf4
  v4 := Try.zeroValue4
  t5 := Try.underlying5
  a5 := Try.isAgg5
  z5 := Try.sizeOf5
  v5 := Try.zeroValue5
  t9 := Try.underlying9
  a9 := Try.isAgg9
  z9 := Try.sizeOf9
  v9 := Try.zeroValue9
  t22 := Try.underlying33
  a22 := Try.isAgg33
  z22 := Try.sizeOf33
  v22 := Try.zeroValue33
  a24 := Try.isAgg30
  z24 := Try.sizeOf30
  t25 := Try.underlying67
  a25 := Try.isAgg67
  z25 := Try.sizeOf67
  v25 := Try.zeroValue67
  t39 := Try.underlying105
  a39 := Try.isAgg105
  z39 := Try.sizeOf105
  v39 := Try.zeroValue105
  t45 := Try.underlying126
  a45 := Try.isAgg126
  z45 := Try.sizeOf126
  v45 := Try.zeroValue126
  t46 := Try.underlying127
  a46 := Try.isAgg127
  z46 := Try.sizeOf127
  v46 := Try.zeroValue127
  t50 := Try.underlying73
  a50 := Try.isAgg73
  z50 := Try.sizeOf73
  v50 := Try.zeroValue73
  t53 := Try.underlying133
  a53 := Try.isAgg133
  z53 := Try.sizeOf133
  v53 := Try.zeroValue133
  t55 := Try.underlying99
  a55 := Try.isAgg99
  z55 := Try.sizeOf99
  v55 := Try.zeroValue99
  t66 := Try.underlying146
  a66 := Try.isAgg146
  z66 := Try.sizeOf146
  v66 := Try.zeroValue146
  t70 := Try.underlying150
  a70 := Try.isAgg150
  z70 := Try.sizeOf150
  v70 := Try.zeroValue150
  t76 := Try.underlying155
  a76 := Try.isAgg155
  z76 := Try.sizeOf155
  v76 := Try.zeroValue155
  t77 := Try.underlying156
  a77 := Try.isAgg156
  z77 := Try.sizeOf156
  v77 := Try.zeroValue156
}

/-! ### a row of any kind -/
theorem holds_of_blockE {α : Type} [Inhabited α] (enc : α → Value) {w : World} {g : Nat} {cur : Array Value} {e : TypeId} {ss : List α} (hb : w.heap[g]? = some (.cells cur e (0, 0))) (ht : cur.toList.take ss.length = ss.map enc) : Go.Sort.Holds enc w g 0 ss.toArray := by
  intro j hj
  have hj' : j < ss.length := by simpa using hj
  refine ⟨?_, by simp [World.frozen?, hb]⟩
  have h1 : (cur.toList.take ss.length)[j]? = (ss.map enc)[j]? := by rw [ht]
  rw [List.getElem?_take_of_lt hj'] at h1
  simp only [World.cell?, hb, Nat.zero_add]
  simp only [Option.isSome_none, Bool.false_eq_true, if_false]
  rw [← Array.getElem?_toList, h1]
  simp [hj']
theorem heap_sortedE {α : Type} [Inhabited α] (enc : α → Value) {w : World} {g n : Nat} {os : Array Obj} {cur : Array Value} {e : TypeId} {fr : Nat × Nat} (d : Array α) (hb : w.heap[g]? = some (.cells cur e fr)) :
    (Go.Sort.grow (Go.Sort.putRow enc (Go.Sort.ahead w n) g 0 d) os).heap[g]? = some (.cells (Go.Sort.putCells enc 0 d cur) e fr) := by
  have hg : g < w.heap.size := (Array.getElem?_eq_some_iff.1 hb).1
  rw [Go.Sort.heap_grow_old _ _ (by simpa using hg)]
  simp [Go.Sort.putRow, Go.Sort.mapBlock, Go.Sort.ahead, Array.getElem?_modify, hb, Go.Sort.onCells]
theorem grownBy_sortedE {α : Type} [Inhabited α] (enc : α → Value) {w : World} {g n : Nat} {os : Array Obj} (d : Array α) : w.grownBy (Go.Sort.grow (Go.Sort.putRow enc (Go.Sort.ahead w n) g 0 d) os) (some g) := by
  refine ⟨rfl, rfl, rfl, by simp, fun k hk hne => ?_⟩
  rw [Go.Sort.heap_grow_old _ _ (by simpa using hk)]
  have : g ≠ k := fun e => hne (by rw [e])
  simp [Go.Sort.putRow, Go.Sort.mapBlock, Go.Sort.ahead, Array.getElem?_modify, this]
theorem take_putCellsE {α : Type} [Inhabited α] (enc : α → Value) (cur : Array Value) (d : Array α) (h : d.size ≤ cur.size) : (Go.Sort.putCells enc 0 d cur).toList.take d.size = d.toList.map enc := by
  apply List.ext_getElem?
  intro j
  by_cases hj : j < d.size
  · rw [List.getElem?_take_of_lt hj, Array.getElem?_toList]
    simp [Go.Sort.putCells, hj, show j < cur.size by omega]
  · rw [List.getElem?_take_eq_none (by omega), List.getElem?_eq_none (by simp; omega)]

end Go.Proofs.Ytgflhgkcmfjkgaa
end
