/- The texts of this claim, run 5: PRr PBr CF Sq Cmp Mk Ds0 Ds1. -/
import Derived.Test.YtgflhgkcmfjkgaaK1
import Derived.Test.YtgflhgkcmfjkgaaK4
import Derived.Deep.RegionHeld3
import Derived.Deep.DrawnRows
import Derived.Shelf.SlSortCmp.NoneTotal
section
/- Plain: the schedule of the circle method is valid (kernel check over numbers that stand for pairs). -/
namespace Go.Proofs.Ytgflhgkcmfjkgaa
set_option linter.unusedSimpArgs false
set_option linter.unusedVariables false

def evn (n : Nat) : Nat := n + n % 2
def rrU (n r : Nat) : List (List Int) :=
  (if n % 2 = 0 then [prL ((n - 1 : Nat) : Int) (r : Int)] else []) ++
  (List.range (evn n / 2 - 1)).map fun j => prL (((r + (j + 1)) % (evn n - 1) : Nat) : Int) (((r + (evn n - 1) - (j + 1)) % (evn n - 1) : Nat) : Int)
def rrR (n r : Nat) : List (List Int) := srtL (rrU n r)
def rrL (n : Nat) : List (List (List Int)) := (List.range (evn n - 1)).map (rrR n)
theorem rrL_len (n : Nat) : (rrL n).length = evn n - 1 := by simp [rrL]
theorem x3_rrL {n r : Nat} (h : r < evn n - 1) : x3at (rrL n) r = rrR n r := by rw [x3at_eq (by rw [rrL_len]; exact h)]; simp [rrL]
theorem rrR_len {n r : Nat} (h : 2 ≤ n) : (rrR n r).length = n / 2 := by
  rw [rrR, srtL_len, rrU]
  unfold evn
  split <;> simp <;> omega

/-! ### pairs as numbers -/
def dec (c : Nat) : List Int := [((c / 64 : Nat) : Int), ((c % 64 : Nat) : Int)]
def cod (x y : Nat) : Nat := bif Nat.blt y x then y * 64 + x else x * 64 + y
theorem dec_pair {a b : Nat} (hb : b < 64) : dec (a * 64 + b) = [(a : Int), (b : Int)] := by
  rw [dec, show (a * 64 + b) / 64 = a by omega, show (a * 64 + b) % 64 = b by omega]
theorem blt_t {a b : Nat} : Nat.blt a b = true ↔ a < b := by rw [Nat.blt_eq]
theorem dec_cod {x y : Nat} (hx : x < 64) (hy : y < 64) : dec (cod x y) = prL x y := by
  rw [cod, prL]
  by_cases h : y < x
  · rw [blt_t.2 h, cond_true, if_pos (by omega), dec_pair hx]
  · rw [show Nat.blt y x = false by rw [← Bool.not_eq_true, blt_t]; exact h, cond_false, if_neg (by omega), dec_pair hy]
theorem cmp_dec (a b : Nat) : (cmpI (dec a) (dec b) ≤ 0 ↔ a ≤ b) ∧ (cmpI (dec a) (dec b) < 0 ↔ a < b) := by
  simp only [dec, cmpI]
  by_cases h1 : a / 64 < b / 64
  · rw [if_pos (by omega)]; omega
  · rw [if_neg (by omega)]
    by_cases h2 : b / 64 < a / 64
    · rw [if_pos (by omega)]; omega
    · rw [if_neg (by omega)]
      by_cases h3 : a % 64 < b % 64
      · rw [if_pos (by omega)]; omega
      · rw [if_neg (by omega)]
        by_cases h4 : b % 64 < a % 64
        · rw [if_pos (by omega)]; omega
        · rw [if_neg (by omega)]; omega
def insN (b : Nat) : List Nat → List Nat
  | [] => [b]
  | a :: r => bif Nat.ble b a then b :: a :: r else a :: insN b r
def srtN (A : List Nat) : List Nat := A.foldr insN []
theorem ins_map (b : Nat) : ∀ A : List Nat, insL (dec b) (A.map dec) = (insN b A).map dec
  | [] => rfl
  | a :: r => by
    have h := (cmp_dec b a).1
    rw [List.map_cons, insL, insN]
    by_cases e : b ≤ a
    · rw [if_pos (by rw [leL]; exact decide_eq_true (h.2 e)), Nat.ble_eq_true_of_le e, cond_true]; rfl
    · rw [if_neg (by rw [leL]; simp only [decide_eq_true_eq]; omega), show Nat.ble b a = false by rw [← Bool.not_eq_true, Nat.ble_eq]; exact e, cond_false, List.map_cons, ins_map b r]
theorem srt_map : ∀ A : List Nat, srtL (A.map dec) = (srtN A).map dec
  | [] => rfl
  | a :: r => by
    rw [List.map_cons, srtL, List.foldr_cons]
    rw [show List.foldr insL [] (List.map dec r) = srtL (List.map dec r) from rfl, srt_map r, ins_map]; rfl
def rrC (n r : Nat) : List Nat :=
  (bif Nat.beq (n % 2) 0 then [cod (n - 1) r] else []) ++
  (List.range (evn n / 2 - 1)).map fun j => cod ((r + (j + 1)) % (evn n - 1)) ((r + (evn n - 1) - (j + 1)) % (evn n - 1))
theorem rr_cod {n r : Nat} (h2 : 2 ≤ n) (h : n ≤ 32) (hr : r < evn n - 1) : rrR n r = (srtN (rrC n r)).map dec := by
  have hm : evn n - 1 ≤ 32 ∧ 0 < evn n - 1 := by unfold evn; omega
  rw [rrR, ← srt_map]
  congr 1
  rw [rrU, rrC, List.map_append, List.map_map]
  congr 1
  · by_cases e : n % 2 = 0
    · rw [if_pos e, show Nat.beq (n % 2) 0 = true from by rw [e]; rfl, cond_true, List.map_singleton, dec_cod (by omega) (by omega)]
    · rw [if_neg e, show Nat.beq (n % 2) 0 = false from by rw [show n % 2 = 1 by omega]; rfl, cond_false]; rfl
  · refine List.map_congr_left fun j _ => ?_
    have h1 := Nat.mod_lt (r + (j + 1)) hm.2
    have h2 := Nat.mod_lt (r + (evn n - 1) - (j + 1)) hm.2
    exact (dec_cod (by omega) (by omega)).symm
/-- the round in which two teams meet -/
def invRr (n a b : Nat) : Nat := bif Nat.beq (n % 2) 0 && Nat.beq (b + 1) n then a else ((a + b) * (evn n / 2)) % (evn n - 1)
def stB : List Nat → Bool
  | [] => true
  | a :: r => match r with
    | [] => true
    | b :: _ => Nat.blt a b && stB r
def djQ (a : Nat) : List Nat → Bool
  | [] => true
  | b :: r => !Nat.beq (a / 64) (b / 64) && !Nat.beq (a / 64) (b % 64) && !Nat.beq (a % 64) (b / 64) && !Nat.beq (a % 64) (b % 64) && djQ a r
def djB : List Nat → Bool
  | [] => true
  | a :: r => djQ a r && djB r
def hasN (a : Nat) : List Nat → Bool
  | [] => false
  | b :: r => Nat.beq a b || hasN a r
theorem hasN_t {a : Nat} : ∀ {r : List Nat}, hasN a r = true → a ∈ r
  | [], h => by simp [hasN] at h
  | b :: r, h => by
    simp only [hasN, Bool.or_eq_true] at h
    rcases h with h | h
    · rw [Nat.eq_of_beq_eq_true h]; simp
    · exact List.mem_cons_of_mem _ (hasN_t h)
def natAt (q : List Nat) (k : Nat) : Nat := q.getD k 0
theorem xat_map {q : List Nat} {k : Nat} (h : k < q.length) : xat (q.map dec) k = dec (natAt q k) := by
  rw [xat_eq (by simpa using h), List.getElem_map, natAt, List.getD_eq_getElem?_getD, List.getElem?_eq_getElem h]; rfl
theorem stB_t : ∀ {q : List Nat}, stB q = true → ∀ k, k + 1 < q.length → natAt q k < natAt q (k + 1)
  | [], _, k, hk => by simp at hk
  | [_], _, k, hk => by simp at hk
  | a :: b :: r, h, 0, _ => by
    rw [stB, Bool.and_eq_true] at h
    exact blt_t.1 h.1
  | a :: b :: r, h, k + 1, hk => by
    rw [stB, Bool.and_eq_true] at h
    exact stB_t h.2 k (by simpa using hk)
theorem nbeq {a b : Nat} (h : (!Nat.beq a b) = true) : a ≠ b := fun e => by
  subst e
  rw [Nat.beq_refl] at h
  cases h
theorem djQ_t {a : Nat} : ∀ {r : List Nat}, djQ a r = true → ∀ b ∈ r, ∀ x ∈ dec a, x ∉ dec b
  | [], _, b, hb => by simp at hb
  | c :: r, h, b, hb => fun x hx hx' => by
    simp only [djQ, Bool.and_eq_true] at h
    obtain ⟨⟨⟨⟨h1, h2⟩, h3⟩, h4⟩, h5⟩ := h
    rcases List.mem_cons.1 hb with e | hb
    · subst e
      have := nbeq h1
      have := nbeq h2
      have := nbeq h3
      have := nbeq h4
      simp only [dec, List.mem_cons, List.not_mem_nil, or_false] at hx hx'
      omega
    · exact djQ_t h5 b hb x hx hx'
theorem natAt_mem {q : List Nat} {k : Nat} (h : k < q.length) : natAt q k ∈ q := by
  rw [natAt, List.getD_eq_getElem?_getD, List.getElem?_eq_getElem h]; exact List.getElem_mem h
theorem djB_t : ∀ {q : List Nat}, djB q = true → ∀ k, k < q.length → ∀ j, j < k → ∀ x ∈ dec (natAt q j), x ∉ dec (natAt q k)
  | [], _, k, hk => by simp at hk
  | a :: r, h, 0, _ => fun j hj => absurd hj (by omega)
  | a :: r, h, k + 1, hk => fun j hj x hx => by
    rw [djB, Bool.and_eq_true] at h
    have hk' : k < r.length := by simpa using hk
    cases j with
    | zero => exact djQ_t h.1 (natAt r k) (natAt_mem hk') x hx
    | succ j => exact djB_t h.2 k hk' j (by omega) x hx
def allN (p : Nat → Bool) : Nat → Bool
  | 0 => true
  | k + 1 => p k && allN p k
theorem allN_t {p : Nat → Bool} : ∀ {n : Nat}, allN p n = true → ∀ k, k < n → p k = true
  | 0, _, k, hk => absurd hk (by omega)
  | n + 1, h, k, hk => by
    rw [allN, Bool.and_eq_true] at h
    by_cases e : k = n
    · rw [e]; exact h.1
    · exact allN_t h.2 k (by omega)
def gdC (n r c : Nat) : Bool := Nat.blt (c / 64) (c % 64) && Nat.blt (c % 64) n && Nat.beq (invRr n (c / 64) (c % 64)) r
def chkRr (n r : Nat) (q : List Nat) : Bool :=
  (q.all (gdC n r)) && stB q && djB q &&
  (allN (fun x => Nat.beq x r || hasN (cod x ((2 * r + (evn n - 1) - x) % (evn n - 1))) q) (evn n - 1)) &&
  (Nat.beq (n % 2) 1 || hasN (r * 64 + (n - 1)) q)
def chkNr (n : Nat) : Bool :=
  allN (fun a => allN (fun b => Nat.ble b a || (Nat.blt (invRr n a b) (evn n - 1) && ((Nat.beq (n % 2) 0 && Nat.beq (b + 1) n) || (!Nat.beq a (invRr n a b) && Nat.blt a (evn n - 1) && Nat.beq ((2 * invRr n a b + (evn n - 1) - a) % (evn n - 1)) b)))) n) n
def chkRR (n : Nat) : Bool := allN (fun r => chkRr n r (srtN (rrC n r))) (evn n - 1) && chkNr n
set_option maxRecDepth 100000
theorem rr_chk : allN (fun k => chkRR (k + 2)) 31 = true := by decide +kernel
theorem nodup_of_inv {inv : List Int → Nat} : ∀ {L : List (List (List Int))} {s : Nat}, (∀ r, r < L.length → (x3at L r).Nodup) → (∀ r, r < L.length → ∀ p ∈ x3at L r, inv p = s + r) → L.flatten.Nodup
  | [], _, _, _ => by simp
  | q :: L, s, h1, h2 => by
    have h3 : L.flatten.Nodup := nodup_of_inv (inv := inv) (s := s + 1) (fun r hr => h1 (r + 1) (by simpa using hr)) (fun r hr p hp => by
      have := h2 (r + 1) (by simpa using hr) p hp
      omega)
    rw [List.flatten_cons, List.nodup_append]
    refine ⟨h1 0 (by simp), h3, fun a ha b hb e => ?_⟩
    subst e
    obtain ⟨q', hq', hb'⟩ := List.mem_flatten.1 hb
    obtain ⟨r, hr, rfl⟩ := mem_x3at hq'
    have e1 := h2 0 (by simp) a ha
    have e2 := h2 (r + 1) (by simpa using hr) a hb'
    omega
theorem cmpI_lt_trans {a b c : List Int} (h1 : cmpI a b < 0) (h2 : cmpI b c < 0) : cmpI a c < 0 := by
  have h3 := cmpI_trans (a := a) (b := b) (c := c) (by omega) (by omega)
  rcases Int.lt_or_le (cmpI a c) 0 with h | h
  · exact h
  · have e := cmpI_eq (a := a) (b := c) (by omega)
    subst e
    have := cmpI_neg a b
    omega
theorem st_lt {q : List (List Int)} (h : ∀ k, k + 1 < q.length → cmpI (xat q k) (xat q (k + 1)) < 0) : ∀ d j, j + d + 1 < q.length → cmpI (xat q j) (xat q (j + d + 1)) < 0
  | 0, j, hj => h j hj
  | d + 1, j, hj => cmpI_lt_trans (st_lt h d j (by omega)) (h (j + d + 1) hj)
theorem st_lt' {q : List (List Int)} (h : ∀ k, k + 1 < q.length → cmpI (xat q k) (xat q (k + 1)) < 0) {j k : Nat} (hjk : j < k) (hk : k < q.length) : cmpI (xat q j) (xat q k) < 0 := by
  have := st_lt h (k - j - 1) j (by omega)
  rwa [show j + (k - j - 1) + 1 = k by omega] at this
theorem st_nodup {q : List (List Int)} (h : ∀ k, k + 1 < q.length → cmpI (xat q k) (xat q (k + 1)) < 0) : q.Nodup := by
  rw [List.nodup_iff_pairwise_ne, List.pairwise_iff_getElem]
  intro i j hi hj hij e
  have := st_lt' h hij hj
  rw [xat_eq hi, xat_eq hj, e, cmpI_self] at this
  omega
theorem gdC_t {n r c : Nat} (h : gdC n r c = true) : gdP n (dec c) = true ∧ invRr n (nth (dec c) 0).toNat (nth (dec c) 1).toNat = r := by
  simp only [gdC, Bool.and_eq_true] at h
  obtain ⟨⟨h1, h2⟩, h3⟩ := h
  have h1 := blt_t.1 h1
  have h2 := blt_t.1 h2
  have h3 := Nat.eq_of_beq_eq_true h3
  have e0 : nth (dec c) 0 = ((c / 64 : Nat) : Int) := rfl
  have e1 : nth (dec c) 1 = ((c % 64 : Nat) : Int) := rfl
  refine ⟨?_, by rw [e0, e1, Int.toNat_natCast, Int.toNat_natCast]; exact h3⟩
  rw [gdP, e0, e1]
  simp only [Bool.and_eq_true, decide_eq_true_eq]
  exact ⟨⟨⟨rfl, by omega⟩, inB_true (by omega)⟩, inB_true (by omega)⟩
theorem rr_vs {n : Nat} (h2 : 2 ≤ n) (h32 : n ≤ 32) : VS n (rrL n) := by
  have hc := allN_t rr_chk (n - 2) (by omega)
  rw [show n - 2 + 2 = n by omega, chkRR, Bool.and_eq_true] at hc
  obtain ⟨hc, hn⟩ := hc
  have hm : evn n - 1 ≤ 32 ∧ n - 1 ≤ evn n - 1 := by unfold evn; omega
  have hR : ∀ r, r < evn n - 1 → (∀ p ∈ rrR n r, gdP n p = true ∧ invRr n (nth p 0).toNat (nth p 1).toNat = r) ∧ (∀ k, k + 1 < (rrR n r).length → cmpI (xat (rrR n r) k) (xat (rrR n r) (k + 1)) < 0) ∧
      (∀ k, k < (rrR n r).length → ∀ j, j < k → ∀ x ∈ xat (rrR n r) j, x ∉ xat (rrR n r) k) ∧ (∀ x, x < evn n - 1 → x ≠ r → prL (x : Int) (((2 * r + (evn n - 1) - x) % (evn n - 1) : Nat) : Int) ∈ rrR n r) ∧
      (n % 2 = 0 → [(r : Int), ((n - 1 : Nat) : Int)] ∈ rrR n r) := by
    intro r hr
    have h := allN_t hc r hr
    rw [rr_cod h2 h32 hr]
    generalize srtN (rrC n r) = q at h
    simp only [chkRr, Bool.and_eq_true, Bool.or_eq_true] at h
    obtain ⟨⟨⟨⟨a1, a2⟩, a3⟩, a4⟩, a5⟩ := h
    refine ⟨fun p hp => ?_, fun k hk => ?_, fun k hk j hj => ?_, fun x hx hne => ?_, fun he => ?_⟩
    · obtain ⟨c, hc, rfl⟩ := List.mem_map.1 hp
      exact gdC_t (List.all_eq_true.1 a1 c hc)
    · rw [List.length_map] at hk
      rw [xat_map hk, xat_map (by omega)]
      exact (cmp_dec _ _).2.2 (stB_t a2 k hk)
    · rw [List.length_map] at hk
      rw [xat_map hk, xat_map (by omega)]
      exact djB_t a3 k hk j hj
    · have := allN_t a4 x hx
      rw [Bool.or_eq_true] at this
      have hl := Nat.mod_lt (2 * r + (evn n - 1) - x) (show 0 < evn n - 1 by omega)
      rcases this with h | h
      · exact absurd (Nat.eq_of_beq_eq_true h) hne
      · rw [← dec_cod (by omega) (by omega)]
        exact List.mem_map_of_mem (hasN_t h)
    · rcases a5 with h | h
      · have := Nat.eq_of_beq_eq_true h; omega
      · rw [← dec_pair (by omega)]
        exact List.mem_map_of_mem (hasN_t h)
  have hq : ∀ q ∈ rrL n, ∃ r, r < evn n - 1 ∧ q = rrR n r := by
    intro q hq
    obtain ⟨r, hr, rfl⟩ := mem_x3at hq
    rw [rrL_len] at hr
    exact ⟨r, hr, x3_rrL hr⟩
  have hin : ∀ {r p}, r < evn n - 1 → p ∈ rrR n r → p ∈ (rrL n).flatten := fun {r p} hr hp => List.mem_flatten.2 ⟨rrR n r, by rw [← x3_rrL hr]; exact x3at_mem (by rw [rrL_len]; exact hr), hp⟩
  refine ⟨h2, h32, fun q hq' p hp => ?_, fun q hq' => ?_, fun q hq' => ?_, ?_, fun a b hab hb => ?_⟩
  · obtain ⟨r, hr, rfl⟩ := hq q hq'
    exact ((hR r hr).1 p hp).1
  · obtain ⟨r, hr, rfl⟩ := hq q hq'
    exact (hR r hr).2.1
  · obtain ⟨r, hr, rfl⟩ := hq q hq'
    exact (hR r hr).2.2.1
  · refine nodup_of_inv (inv := fun p => invRr n (nth p 0).toNat (nth p 1).toNat) (s := 0) (fun r hr => ?_) (fun r hr p hp => ?_)
    · rw [rrL_len] at hr
      rw [x3_rrL hr]
      exact st_nodup (hR r hr).2.1
    · rw [rrL_len] at hr
      rw [x3_rrL hr] at hp
      rw [Nat.zero_add]
      exact ((hR r hr).1 p hp).2
  · have h := allN_t (allN_t hn a (by omega)) b hb
    simp only [Bool.or_eq_true, Bool.and_eq_true] at h
    rcases h with h | ⟨h1, h⟩
    · have := Nat.le_of_ble_eq_true h; omega
    · have h1 := blt_t.1 h1
      rcases h with h | ⟨⟨h3, h4⟩, h5⟩
      · have h6 := (hR _ h1).2.2.2.2 (Nat.eq_of_beq_eq_true h.1)
        have e : invRr n a b = a := by rw [invRr, h.1, h.2]; rfl
        rw [e] at h6 h1
        rw [show b = n - 1 by have := Nat.eq_of_beq_eq_true h.2; omega]
        exact hin h1 h6
      · have h6 := (hR _ h1).2.2.2.1 a (blt_t.1 h4) (nbeq h3)
        rw [Nat.eq_of_beq_eq_true h5, prL, if_neg (by omega)] at h6
        exact hin h1 h6
end Go.Proofs.Ytgflhgkcmfjkgaa
end

section
/- Plain: breaks of a schedule: fewer than n - 2 are not possible; the circle method has n - 2. -/
namespace Go.Proofs.Ytgflhgkcmfjkgaa
set_option linter.unusedSimpArgs false
set_option linter.unusedVariables false

/-- the place of a team behind the first k pairs: 1 at home, -1 away, 0 not playing -/
def plN (q : List (List Int)) (h : List Int) : Nat → Int → Int
  | 0, _ => 0
  | k + 1, t => if t = nth h k then 1 else if t ∈ xat q k then -1 else plN q h k t
theorem plN_keep {q : List (List Int)} {h : List Int} {t : Int} {j : Nat} (hh : ∀ k, k < q.length → nth h k ∈ xat q k) (hn : ∀ k, j < k → k < q.length → t ∉ xat q k) : ∀ k, j < k → k ≤ q.length → plN q h k t = plN q h (j + 1) t
  | 0, h1, _ => by omega
  | k + 1, h1, h2 => by
    by_cases e : k = j
    · rw [e]
    · have h3 := hn k (by omega) (by omega)
      rw [plN, if_neg (show ¬ t = nth h k from fun e => h3 (by rw [e]; exact hh k (by omega))), if_neg h3]
      exact plN_keep hh hn k (by omega) (by omega)
theorem plN_at {q : List (List Int)} {h : List Int} {t : Int} {j : Nat} (hh : ∀ k, k < q.length → nth h k ∈ xat q k) (hn : ∀ k, j < k → k < q.length → t ∉ xat q k) (hj : j < q.length) (ht : t ∈ xat q j) :
    plN q h q.length t = if t = nth h j then 1 else -1 := by
  rw [plN_keep hh hn _ hj (Nat.le_refl _), plN, if_pos ht]

def cntN (p : Nat → Bool) : Nat → Nat
  | 0 => 0
  | n + 1 => cntN p n + if p n then 1 else 0
theorem cntN_le (p : Nat → Bool) : ∀ n, cntN p n ≤ n
  | 0 => Nat.le_refl _
  | n + 1 => by have := cntN_le p n; rw [cntN]; split <;> omega
theorem cntN_congr {p q : Nat → Bool} : ∀ n, (∀ t, t < n → p t = q t) → cntN p n = cntN q n
  | 0, _ => rfl
  | n + 1, h => by rw [cntN, cntN, cntN_congr n (fun t ht => h t (by omega)), h n (by omega)]
theorem cntN_or (p q : Nat → Bool) : ∀ n, cntN (fun t => p t || q t) n ≤ cntN p n + cntN q n
  | 0 => by simp [cntN]
  | n + 1 => by
    have := cntN_or p q n
    simp only [cntN]
    by_cases h1 : p n = true <;> by_cases h2 : q n = true <;> simp [h1, h2] <;> omega
theorem cntN_not (p : Nat → Bool) : ∀ n, cntN p n + cntN (fun t => !p t) n = n
  | 0 => by simp [cntN]
  | n + 1 => by
    have := cntN_not p n
    simp only [cntN]
    by_cases h1 : p n = true <;> simp [h1] <;> omega
theorem cntN_zero {p : Nat → Bool} : ∀ {n}, (∀ t, t < n → p t = false) → cntN p n = 0
  | 0, _ => rfl
  | n + 1, h => by rw [cntN, cntN_zero (fun t ht => h t (by omega)), h n (by omega)]; rfl
theorem cntN_one {p : Nat → Bool} : ∀ {n}, (∀ s t, s < n → t < n → p s = true → p t = true → s = t) → cntN p n ≤ 1
  | 0, _ => by simp [cntN]
  | n + 1, h => by
    rw [cntN]
    by_cases hp : p n = true
    · rw [cntN_zero (fun t ht => by
        cases hq : p t with
        | false => rfl
        | true => have := h t n (by omega) (by omega) hq hp; omega), if_pos hp]
      omega
    · rw [if_neg hp]
      exact cntN_one fun s t hs ht => h s t (by omega) (by omega)

/-- the place of a team in a round -/
def plR (R : List (List (List Int))) (H : List (List Int)) (r : Nat) (t : Int) : Int := plN (x3at R r) (xat H r) (x3at R r).length t
def bkB (R : List (List (List Int))) (H : List (List Int)) (r t : Nat) : Bool := decide (plR R H r t * plR R H (r + 1) t = 1)
/-- the breaks of the first rounds -/
def brF (n : Nat) (R : List (List (List Int))) (H : List (List Int)) : Nat → Nat
  | 0 => 0
  | r + 1 => brF n R H r + cntN (bkB R H r) n
theorem brF_le (n : Nat) (R : List (List (List Int))) (H : List (List Int)) : ∀ r, brF n R H r ≤ r * n
  | 0 => by simp [brF]
  | r + 1 => by
    have := brF_le n R H r
    have := cntN_le (bkB R H r) n
    rw [brF, Nat.add_mul]; omega
def anB (R : List (List (List Int))) (H : List (List Int)) : Nat → Nat → Bool
  | 0, _ => false
  | r + 1, t => anB R H r t || bkB R H r t
theorem an_le (n : Nat) (R : List (List (List Int))) (H : List (List Int)) : ∀ r, cntN (anB R H r) n ≤ brF n R H r
  | 0 => by
    have : cntN (anB R H 0) n = 0 := cntN_zero fun t _ => rfl
    omega
  | r + 1 => by
    have h1 := cntN_or (anB R H r) (bkB R H r) n
    have h2 := an_le n R H r
    rw [brF]
    exact Nat.le_trans h1 (by omega)
theorem anB_f {R : List (List (List Int))} {H : List (List Int)} {t : Nat} : ∀ {r}, anB R H r t = false → ∀ s, s < r → bkB R H s t = false
  | 0, _, s, hs => by omega
  | r + 1, h, s, hs => by
    rw [anB, Bool.or_eq_false_iff] at h
    by_cases e : s = r
    · rw [e]; exact h.2
    · exact anB_f h.1 s (by omega)

/-- homes that fit -/
structure HmOk (R : List (List (List Int))) (H : List (List Int)) : Prop where
  len : H.length = R.length
  rl : ∀ r, r < R.length → (xat H r).length = (x3at R r).length
  mem : ∀ r, r < R.length → ∀ k, k < (x3at R r).length → nth (xat H r) k ∈ xat (x3at R r) k

section
variable {n : Nat} {R : List (List (List Int))} {H : List (List Int)}
theorem cnt_step (L : List Int) (t : Int) (m : Nat) : L.countP (fun o => decide (0 ≤ o ∧ o < ((m + 1 : Nat) : Int) ∧ o ≠ t)) = L.countP (fun o => decide (0 ≤ o ∧ o < (m : Int) ∧ o ≠ t)) + if (m : Int) = t then 0 else L.countP (fun o => decide (o = (m : Int))) := by
  induction L with
  | nil => split <;> rfl
  | cons x L ih =>
    simp only [List.countP_cons, ih, decide_eq_true_eq]
    by_cases e : (m : Int) = t
    · simp only [if_pos e]
      by_cases h : 0 ≤ x ∧ x < (m : Int) ∧ x ≠ t
      · rw [if_pos h, if_pos (by omega)]
      · rw [if_neg h, if_neg (by omega)]
    · simp only [if_neg e]
      by_cases h : x = (m : Int)
      · rw [if_pos (show 0 ≤ x ∧ x < ((m + 1 : Nat) : Int) ∧ x ≠ t by omega), if_neg (show ¬ (0 ≤ x ∧ x < (m : Int) ∧ x ≠ t) by omega), if_pos h]; omega
      · by_cases h2 : 0 ≤ x ∧ x < (m : Int) ∧ x ≠ t
        · rw [if_pos (show 0 ≤ x ∧ x < ((m + 1 : Nat) : Int) ∧ x ≠ t by omega), if_pos h2, if_neg h]; omega
        · rw [if_neg (show ¬ (0 ≤ x ∧ x < ((m + 1 : Nat) : Int) ∧ x ≠ t) by omega), if_neg h2, if_neg h]; omega
theorem mn_cnt (L : List Int) (t : Int) : ∀ m, mnF L t m = (L.countP (fun o => decide (0 ≤ o ∧ o < (m : Int) ∧ o ≠ t)) : Int)
  | 0 => by
    rw [mnF, eq_comm]
    have : L.countP (fun o => decide (0 ≤ o ∧ o < ((0 : Nat) : Int) ∧ o ≠ t)) = 0 := by
      rw [List.countP_eq_zero]; intro x _; simp only [decide_eq_true_eq]; omega
    rw [this]; rfl
  | m + 1 => by
    rw [mnF, mn_cnt L t m, cnt_step]
    split <;> push_cast <;> rfl
/-- every team plays in every round -/
theorem VS.plays (h : VS n R) (hl : R.length + 1 = n) {t r : Nat} (ht : t < n) (hr : r < R.length) : ∃ k, k < (x3at R r).length ∧ (t : Int) ∈ xat (x3at R r) k := by
  have h1 := mn_cnt (oppL t R) t n
  rw [mnF_val (fun x hx hne => h.once ht hx (by omega)) n (Nat.le_refl _), if_pos ht] at h1
  have h2 : (oppL t R).countP (fun o => decide (0 ≤ o ∧ o < (n : Int) ∧ o ≠ t)) = (oppL t R).length := by
    have : (oppL t R).length = R.length := by simp [oppL]
    omega
  rw [List.countP_eq_length] at h2
  have h3 := h2 (opF t (x3at R r)) (List.mem_map.2 ⟨_, x3at_mem hr, rfl⟩)
  simp only [decide_eq_true_eq] at h3
  by_cases hex : ∃ p ∈ x3at R r, (t : Int) ∈ p
  · obtain ⟨p, hp, htp⟩ := hex
    obtain ⟨k, hk, rfl⟩ := mem_xat hp
    exact ⟨k, hk, htp⟩
  · rw [opF, opS_no fun p hp ht => hex ⟨p, hp, ht⟩] at h3
    omega
theorem VS.pl_at (h : VS n R) (hH : HmOk R H) {r k : Nat} {t : Int} (hr : r < R.length) (hk : k < (x3at R r).length) (ht : t ∈ xat (x3at R r) k) : plR R H r t = if t = nth (xat H r) k then 1 else -1 :=
  plN_at (hH.mem r hr) (fun j hj hjq hm => h.dj _ (x3at_mem hr) j hjq k hj _ ht hm) hk ht
theorem VS.pl_pm (h : VS n R) (hH : HmOk R H) (hl : R.length + 1 = n) {t r : Nat} (ht : t < n) (hr : r < R.length) : plR R H r t = 1 ∨ plR R H r t = -1 := by
  obtain ⟨k, hk, hm⟩ := h.plays hl ht hr
  rw [h.pl_at hH hr hk hm]
  split <;> simp
theorem VS.pl_alt (h : VS n R) (hH : HmOk R H) (hl : R.length + 1 = n) {s t : Nat} (hs : s < n) (ht : t < n) (ns : anB R H (R.length - 1) s = false) (nt : anB R H (R.length - 1) t = false) (h0 : plR R H 0 s = plR R H 0 t) : ∀ r, r < R.length → plR R H r s = plR R H r t
  | 0, _ => h0
  | r + 1, hr => by
    have ih := h.pl_alt hH hl hs ht ns nt h0 r (by omega)
    have a1 := anB_f ns r (by omega)
    have a2 := anB_f nt r (by omega)
    simp only [bkB, decide_eq_false_iff_not] at a1 a2
    have b1 := h.pl_pm hH hl hs (r := r) (by omega)
    have b2 := h.pl_pm hH hl hs (r := r + 1) (by omega)
    have b3 := h.pl_pm hH hl ht (r := r + 1) (by omega)
    rw [← ih] at a2
    rcases b1 with e1 | e1 <;> rcases b2 with e2 | e2 <;> rcases b3 with e3 | e3 <;> rw [e1] at a1 a2 <;> rw [e2] at a1 ⊢ <;> rw [e3] at a2 ⊢ <;> first | rfl | (exact absurd rfl a1) | (exact absurd rfl a2)
theorem VS.pl_eq (h : VS n R) (hH : HmOk R H) (hl : R.length + 1 = n) {s t : Nat} (hs : s < n) (ht : t < n) (ns : anB R H (R.length - 1) s = false) (nt : anB R H (R.length - 1) t = false) (h0 : plR R H 0 s = plR R H 0 t) : s = t := by
  by_cases e : s = t
  · exact e
  · exfalso
    obtain ⟨q, hq, hp⟩ := List.mem_flatten.1 (h.al' hs ht e)
    obtain ⟨r, hr, rfl⟩ := mem_x3at hq
    obtain ⟨k, hk, e2⟩ := mem_xat hp
    have m1 : (s : Int) ∈ xat (x3at R r) k := by rw [e2, prL]; split <;> simp
    have m2 : (t : Int) ∈ xat (x3at R r) k := by rw [e2, prL]; split <;> simp
    have h1 := h.pl_alt hH hl hs ht ns nt h0 r hr
    rw [h.pl_at hH hr hk m1, h.pl_at hH hr hk m2] at h1
    have h2 := hH.mem r hr k hk
    rw [e2, prL] at h2
    have h3 : nth (xat H r) k = s ∨ nth (xat H r) k = t := by
      split at h2 <;> simp at h2 <;> omega
    rcases h3 with h3 | h3
    · rw [h3, if_pos rfl, if_neg (by omega)] at h1; simp at h1
    · rw [h3, if_neg (by omega), if_pos rfl] at h1; simp at h1
/-- FEWER THAN n - 2 BREAKS ARE NOT POSSIBLE -/
theorem VS.breaks (h : VS n R) (hH : HmOk R H) (hl : R.length + 1 = n) : n - 2 ≤ brF n R H (R.length - 1) := by
  have h1 := an_le n R H (R.length - 1)
  have h2 := cntN_not (anB R H (R.length - 1)) n
  have hR : 0 < R.length := by have := h.n2; omega
  have h3 : cntN (fun t => !anB R H (R.length - 1) t) n ≤ cntN (fun t => (!anB R H (R.length - 1) t) && decide (plR R H 0 t = 1)) n + cntN (fun t => (!anB R H (R.length - 1) t) && decide (plR R H 0 t = -1)) n := by
    refine Nat.le_trans (Nat.le_of_eq (cntN_congr n fun t ht => ?_)) (cntN_or _ _ n)
    rcases h.pl_pm hH hl ht hR with e | e <;> rw [e] <;> simp
  have h4 : cntN (fun t => (!anB R H (R.length - 1) t) && decide (plR R H 0 t = 1)) n ≤ 1 := cntN_one fun s t hs ht ps pt => by
    simp only [Bool.and_eq_true, Bool.not_eq_true', decide_eq_true_eq] at ps pt
    exact h.pl_eq hH hl hs ht ps.1 pt.1 (by rw [ps.2, pt.2])
  have h5 : cntN (fun t => (!anB R H (R.length - 1) t) && decide (plR R H 0 t = -1)) n ≤ 1 := cntN_one fun s t hs ht ps pt => by
    simp only [Bool.and_eq_true, Bool.not_eq_true', decide_eq_true_eq] at ps pt
    exact h.pl_eq hH hl hs ht ps.1 pt.1 (by rw [ps.2, pt.2])
  omega
end

/-! ### the circle method -/
def odB (x : Nat) : Bool := Nat.beq (x % 2) 1
/-- whether a team plays at home -/
def hmB (n r t : Nat) : Bool := bif Nat.beq (t + 1) n then odB r else bif Nat.beq t r then !odB r else odB ((t + (n - 1) - r) % (n - 1))
def hmP (n r : Nat) (p : List Int) : Int := if hmB n r (nth p 0).toNat = true then nth p 0 else nth p 1
def hmR (n r : Nat) : List Int := (rrR n r).map (hmP n r)
def hmH (n : Nat) : List (List Int) := (List.range (n - 1)).map (hmR n)
def cntC (p : Nat → Bool) : Nat → Nat → Nat
  | 0, a => a
  | n + 1, a => cntC p n (bif p n then a + 1 else a)
theorem cntC_eq (p : Nat → Bool) : ∀ n a, cntC p n a = a + cntN p n
  | 0, a => rfl
  | n + 1, a => by
    rw [cntC, cntC_eq p n, cntN]
    by_cases h1 : p n = true <;> simp [h1] <;> omega
def brC (n : Nat) : Nat → Nat → Nat
  | 0, a => a
  | r + 1, a => brC n r (cntC (fun t => !xor (hmB n r t) (hmB n (r + 1) t)) n a)
def chkH (n : Nat) : Bool := Nat.beq (brC n (n - 2) 0) (n - 2) && allN (fun r => (rrC n r).all fun c => xor (hmB n r (c / 64)) (hmB n r (c % 64))) (n - 1)
set_option maxRecDepth 1000000 in
theorem hm_chk : allN (fun k => chkH (2 * k + 2)) 16 = true := by decide +kernel
section
variable {n : Nat}
theorem hm_chk' (he : n % 2 = 0) (h2 : 2 ≤ n) (h32 : n ≤ 32) : chkH n = true := by
  have := allN_t hm_chk (n / 2 - 1) (by omega)
  rwa [show 2 * (n / 2 - 1) + 2 = n by omega] at this
theorem evn_e (he : n % 2 = 0) : evn n = n := by unfold evn; omega
theorem hm_pair (he : n % 2 = 0) (h2 : 2 ≤ n) (h32 : n ≤ 32) {r : Nat} (hr : r < n - 1) {p : List Int} (hp : p ∈ rrR n r) : ∃ a b : Nat, p = [(a : Int), (b : Int)] ∧ xor (hmB n r a) (hmB n r b) = true := by
  have hc := hm_chk' he h2 h32
  rw [rr_cod h2 h32 (by rw [evn_e he]; exact hr), ← srt_map] at hp
  have hp := (srtL_perm _).mem_iff.1 hp
  obtain ⟨c, hcm, rfl⟩ := List.mem_map.1 hp
  rw [chkH, Bool.and_eq_true] at hc
  have h3 := allN_t hc.2 r hr
  rw [List.all_eq_true] at h3
  exact ⟨c / 64, c % 64, rfl, h3 c hcm⟩
theorem x3_rr (he : n % 2 = 0) {r : Nat} (hr : r < n - 1) : x3at (rrL n) r = rrR n r := x3_rrL (by rw [evn_e he]; exact hr)
theorem hmH_len : (hmH n).length = n - 1 := by simp [hmH]
theorem xat_hmH {r : Nat} (hr : r < n - 1) : xat (hmH n) r = hmR n r := by rw [xat_eq (by rw [hmH_len]; exact hr)]; simp [hmH]
theorem nth_hmR {r k : Nat} (hk : k < (rrR n r).length) : nth (hmR n r) k = hmP n r (xat (rrR n r) k) := by
  rw [nth_eq (by simpa [hmR] using hk), xat_eq hk]; simp [hmR]
theorem rrL_len' (he : n % 2 = 0) : (rrL n).length = n - 1 := by rw [rrL_len, evn_e he]
theorem hm_ok (he : n % 2 = 0) (h2 : 2 ≤ n) (h32 : n ≤ 32) : HmOk (rrL n) (hmH n) := by
  refine ⟨by rw [hmH_len, rrL_len' he], fun r hr => ?_, fun r hr k hk => ?_⟩
  · rw [rrL_len' he] at hr
    rw [xat_hmH hr, x3_rr he hr, hmR, List.length_map]
  · rw [rrL_len' he] at hr
    rw [x3_rr he hr] at hk ⊢
    rw [xat_hmH hr, nth_hmR hk]
    obtain ⟨a, b, hp, _⟩ := hm_pair he h2 h32 hr (xat_mem hk)
    rw [hp, hmP]
    split <;> simp [nth]
theorem hm_pl (he : n % 2 = 0) (h2 : 2 ≤ n) (h32 : n ≤ 32) {r t : Nat} (hr : r < n - 1) (ht : t < n) : plR (rrL n) (hmH n) r t = if hmB n r t = true then 1 else -1 := by
  have hv := rr_vs h2 h32
  obtain ⟨k, hk, hm⟩ := hv.plays (by rw [rrL_len' he]; omega) ht (show r < (rrL n).length by rw [rrL_len' he]; exact hr)
  rw [hv.pl_at (hm_ok he h2 h32) (by rw [rrL_len' he]; exact hr) hk hm, xat_hmH hr]
  rw [x3_rr he hr] at hk hm
  rw [nth_hmR hk]
  have hG := gdP_t (hv.gd (rrR n r) (by rw [← x3_rr he hr]; exact x3at_mem (by rw [rrL_len' he]; exact hr)) _ (xat_mem hk))
  obtain ⟨a, b, hp, hx⟩ := hm_pair he h2 h32 hr (xat_mem hk)
  have hl := hG.lt
  rw [hp] at hm hl ⊢
  simp only [nth, List.getD_cons_zero, List.getD_cons_succ] at hl
  simp only [List.mem_cons, List.not_mem_nil, or_false] at hm
  rw [hmP]
  simp only [nth, List.getD_cons_zero, List.getD_cons_succ, Int.toNat_natCast]
  rcases hm with e | e
  · obtain rfl : t = a := by omega
    by_cases h : hmB n r t = true
    · rw [if_pos h, if_pos rfl, if_pos h]
    · rw [if_neg h, if_neg (by omega), if_neg h]
  · obtain rfl : t = b := by omega
    by_cases h : hmB n r a = true
    · rw [h] at hx
      rw [if_pos h, if_neg (by omega), if_neg (by intro h2; rw [h2] at hx; cases hx)]
    · rw [if_neg h, if_pos rfl]
      have h : hmB n r a = false := by simpa using h
      rw [h, Bool.false_xor] at hx
      rw [if_pos hx]
theorem hm_bk (he : n % 2 = 0) (h2 : 2 ≤ n) (h32 : n ≤ 32) {r t : Nat} (hr : r + 1 < n - 1) (ht : t < n) : bkB (rrL n) (hmH n) r t = !xor (hmB n r t) (hmB n (r + 1) t) := by
  rw [bkB, hm_pl he h2 h32 (by omega) ht, hm_pl he h2 h32 hr ht]
  cases hmB n r t <;> cases hmB n (r + 1) t <;> rfl
theorem hm_br (he : n % 2 = 0) (h2 : 2 ≤ n) (h32 : n ≤ 32) : ∀ k a, k ≤ n - 2 → brC n k a = a + brF n (rrL n) (hmH n) k
  | 0, a, _ => rfl
  | r + 1, a, hk => by
    rw [brC, hm_br he h2 h32 r _ (by omega), cntC_eq, brF, cntN_congr (q := bkB (rrL n) (hmH n) r) n fun t ht => (hm_bk he h2 h32 (by omega) ht).symm]
    omega
theorem hm_breaks (he : n % 2 = 0) (h2 : 2 ≤ n) (h32 : n ≤ 32) : brF n (rrL n) (hmH n) (n - 2) = n - 2 := by
  have hc := hm_chk' he h2 h32
  rw [chkH, Bool.and_eq_true] at hc
  have := Nat.eq_of_beq_eq_true hc.1
  rw [hm_br he h2 h32 _ _ (Nat.le_refl _)] at this
  omega
end
end Go.Proofs.Ytgflhgkcmfjkgaa
end

section
/- Walks: slices.IndexFunc and slices.ContainsFunc on integers, for any function that only answers. -/
namespace Go.Proofs.Ytgflhgkcmfjkgaa
set_option linter.unusedSimpArgs false
set_option linter.unusedVariables false
open Go.RowKit

/-- the first place from k on at which p holds, or -1 -/
def idxP (p : Int → Bool) (xs : List Int) (k : Nat) : Int := match (xs.drop k).findIdx? p with | some j => (k + j : Nat) | none => -1
def anyP (p : Int → Bool) (xs : List Int) : Bool := xs.any p

theorem idxP_step {p : Int → Bool} {xs : List Int} {k : Nat} (hk : k < xs.length) (h : p (nth xs k) = false) : idxP p xs k = idxP p xs (k + 1) := by
  rw [idxP, drop_nth hk, List.findIdx?_cons, h]
  simp only [idxP]
  cases (xs.drop (k + 1)).findIdx? p <;> simp <;> omega
theorem idxP_hit {p : Int → Bool} {xs : List Int} {k : Nat} (hk : k < xs.length) (h : p (nth xs k) = true) : idxP p xs k = k := by
  rw [idxP, drop_nth hk, List.findIdx?_cons, h]; simp
theorem idxP_end {p : Int → Bool} {xs : List Int} {k : Nat} (hk : xs.length ≤ k) : idxP p xs k = -1 := by
  rw [idxP, List.drop_of_length_le hk]; rfl
theorem idxP_any {p : Int → Bool} {xs : List Int} : decide (0 ≤ idxP p xs 0) = anyP p xs := by
  unfold idxP anyP
  rw [List.drop_zero]
  cases h : xs.findIdx? p with
  | none =>
    have hn : xs.any p = false := by
      rw [Bool.eq_false_iff]; intro hc
      obtain ⟨x, hx, hp⟩ := List.any_eq_true.1 hc
      have := List.findIdx?_eq_none_iff.1 h x hx
      rw [this] at hp; cases hp
    rw [hn]; simp
  | some j =>
    have hy : xs.any p = true := by
      obtain ⟨hj, hp, _⟩ := List.findIdx?_eq_some_iff_getElem.1 h
      exact List.any_eq_true.2 ⟨_, List.getElem_mem hj, hp⟩
    rw [hy]; simp

end Go.Proofs.Ytgflhgkcmfjkgaa
end

section
/- Walks: squares that are made. -/
namespace Go.Proofs.Ytgflhgkcmfjkgaa
set_option linter.unusedSimpArgs false
set_option linter.unusedVariables false
open Go.RowKit

theorem Try.info_iss : (Try.prog.info? 33).map (fun i => (i.zero, i.size, i.bytes)) = some (some (.slice none 0 0), 1, 24) := by kernel_rfl
section
variable {ops : Array Oper} {rest : List Oper} {o : Oper} {a : Act} {Q : Exit → Act → World → Prop} {B : Nat} {w0 w : World} {L : List Ent}
/-- append of one square to an owned row of squares -/
theorem appIII (hS : St B w0 w L) (i : Nat) {v : Value} {us : List Value} (hi : L[i]? = some (row 33 v us)) (hN : us.length < 4294967296) (hg : o.guard = none) (s x : Operand)
    (hop : o.op = .call { callee := .builtin .append, args := #[s, x], argTypes := #[25, 25] }) (hs : a.eval s = v) (u : Value) (hu : u.oneCell' = true) (hx : a.eval x = .slice (some ⟨w.heap.size, 0, none⟩) 1 1)
    (hK : ∀ v' w', St B w0 w' (L.set i (row 33 v' (us ++ [u]))) → wpList Try.prog ops Q rest (a.put o.dst v') w') :
    wpList Try.prog ops Q (o :: rest) a (w.alloc (.cells #[u] 33)) :=
  wpList_st_app1 hg s x 25 hop 33 (.slice none 0 0) 24 Try.und_isss Try.info_iss rfl hS i hi hs u hx hu (by omega) hN hK
end
/-- behind the append of a square of its own -/
theorem own3_snoc {B : Nat} {w0 w : World} {v v' u : Value} {vs : List Value} {uss : List (List Value)} {X : List (List (List Int))} {us : List Value} {x : List (List Int)} (h1 : vs.length = X.length) (h2 : uss.length = X.length)
    (h : St B w0 w ((own3 v vs uss X ++ own2 u us x).set 0 (row 33 v' (vs ++ [u])))) : St B w0 w (own3 v' (vs ++ [u]) (uss ++ [us]) (X ++ [x])) := by
  rw [own3, rows3_app _ _ _ h1 h2]
  exact h
theorem Fit3.snoc {vs : List Value} {uss : List (List Value)} {X : List (List (List Int))} (h : Fit3 vs uss X) (v : Value) {us : List Value} {x : List (List Int)} (hx : us.length = x.length) : Fit3 (vs ++ [v]) (uss ++ [us]) (X ++ [x]) :=
  ⟨by simp [h.1], by simp [h.2.1], fun k hk => by
    by_cases e : k < X.length
    · have e1 : vsat (uss ++ [us]) k = vsat uss k := by unfold vsat; rw [List.getD_eq_getElem?_getD, List.getElem?_append_left (by rw [h.2.1]; exact e), ← List.getD_eq_getElem?_getD]
      have e2 : x3at (X ++ [x]) k = x3at X k := by unfold x3at; rw [List.getD_eq_getElem?_getD, List.getElem?_append_left e, ← List.getD_eq_getElem?_getD]
      rw [e1, e2]; exact h.2.2 k e
    · have hk' : k = X.length := by simp at hk; omega
      have e1 : vsat (uss ++ [us]) k = us := by unfold vsat; rw [hk', ← h.2.1]; simp
      have e2 : x3at (X ++ [x]) k = x := by unfold x3at; rw [hk']; simp
      rw [e1, e2]; exact hx⟩

theorem RdI.shq {w : World} {v : Value} {xs : List Int} (h : RdI w v xs) : ∃ a c, v = .slice a xs.length c := by
  obtain ⟨a, c, hv⟩ := h.sl.sh
  rw [iv_len] at hv
  exact ⟨a, c, hv⟩
/-- a square by its entries -/
def sqF (n : Nat) (f : Nat → Nat → Int) : List (List Int) := (List.range n).map fun x => tab n (f x)
theorem sqF_len (n : Nat) (f : Nat → Nat → Int) : (sqF n f).length = n := by simp [sqF]
theorem xat_sqF {n : Nat} {f : Nat → Nat → Int} {x : Nat} (h : x < n) : xat (sqF n f) x = tab n (f x) := by simp [sqF, xat, h]
theorem sqF_take {n : Nat} {f : Nat → Nat → Int} {k : Nat} (h : k < n) : (sqF n f).take (k + 1) = (sqF n f).take k ++ [tab n (f k)] := by
  rw [take_xat (by rw [sqF_len]; exact h), xat_sqF h]
theorem tab_succ (k : Nat) (f : Nat → Int) : tab (k + 1) f = tab k f ++ [f k] := by simp [tab, List.range_succ]
set_option maxHeartbeats 2000000 in
set_option maxRecDepth 100000 in
theorem filledSquare_c (K : FuncId) (caps : Array Value) (f : Nat → Nat → Int) (n : Nat) (w : World) (hn : n ≤ 4096)
    (hcf : ∀ (args : Array Value) (W : World), (callFunc K args).run Try.prog W = .ok (.enter K args) W)
    (hK : ∀ (x y : Nat) (W : World), St w.heap.size w W [] → x < n → y < n → Calls Try.prog K (#[.int .i64 x, .int .i64 y] ++ caps) W (GivesI W (f x y))) :
    Calls Try.prog 70 #[.int .i64 n, .func (.func K) #[] caps] w (MakesII w (sqF n f)) := by
  have HK := Lib.hid hK
  clear hK
  have hS0 := (St.refl w).newnil 30
  go_enter Try.func70, Try.ntmps70
  go_wp2_with fail
  go_loopw [5, 6, 7, 8] (fun o ii _ _ wr => ∃ (k : Nat) (us : List Value), k ≤ n ∧ ii = .int .i64 k ∧ Hid (us.length = k) ∧ St w.heap.size w wr (own2 o us ((sqF n f).take k))) (fun _ ii _ _ _ => n - (intOf ii).toNat)
  case atStart => exact ⟨0, [], by omega, rfl, rfl, hS0⟩
  case round =>
    obtain ⟨k, us, hk, rfl, hl, hS⟩ := hrel
    have Hlu := Lib.hid (show us.length = ((sqF n f).take k).length by rw [List.length_take, sqF_len, hl.out]; omega)
    by_cases hlt : k < n
    · have hS1 := (hS.newnil 2).perm List.perm_append_comm
      simp only [List.cons_append, List.nil_append] at hS1
      have Hst := Lib.hid (sqF_take (f := f) hlt)
      go_wp2_with fail
      go_loopw [7, 8] (fun r jj wx => ∃ j : Nat, j ≤ n ∧ jj = .int .i64 j ∧ St w.heap.size w wx (row 2 r (iv (tab j (f k))) :: own2 u5 us ((sqF n f).take k))) (fun _ jj _ => n - (intOf jj).toNat)
      case atStart => exact ⟨0, by omega, rfl, hS1⟩
      case round =>
        obtain ⟨j, hj, rfl, hS2⟩ := hrel
        by_cases hjn : j < n
        · have Hts := Lib.hid (tab_succ j (f k))
          have Htl := Lib.hid (show (tab j (f k)).length < 4294967296 by rw [tab_len]; omega)
          go_wp2_with fail
          refine (HK.out k j _ hS2.out hlt hjn).mono ?_
          rintro e w3 ⟨rfl, h3⟩
          have hS3 := hS2.call0 h3
          go_wp2_with (at_builtin; refine appI hS3 0 rfl Htl.out rfl _ _ rfl rfl _ rfl ?_; intro v4 w4 hS4)
          go_roundw
          case rel => exact ⟨j + 1, by omega, by go_num, by rw [Hts.out]; exact hS4⟩
          case measure => simp [intOf]; omega
        · have hje : j = n := by omega
          rw [hje] at hS2
          clear hje
          obtain ⟨ar, cr, hre⟩ := (hS2.rdI 0 rfl).shq
          subst hre
          have Htl := Lib.hid (show (tab n (f k)).length = n from tab_len _ _)
          go_wp2_with (at_builtin; refine appII hS2 1 rfl (by rw [hl.out]; omega) rfl _ _ rfl rfl _ rfl rfl ?_; intro v4 w4 hS4)
          go_roundw
          case rel =>
            refine ⟨k + 1, us ++ [.slice ar (tab n (f k)).length cr], by omega, by go_num, by simp [Hid, hl.out], ?_⟩
            rw [Hst.out, own2, rowsI_app Hlu.out]
            simp only [own2, List.set_cons_succ, List.set_cons_zero] at hS4
            exact hS4.perm (by (try simp only [own2, List.cons_append, List.nil_append, List.append_nil]); classical exact List.perm_iff_count.2 (fun a => by simp only [List.cons_append, List.nil_append, List.append_nil, List.count_append, List.count_cons, List.count_nil] <;> omega))
          case measure => simp [intOf]; omega
    · have hke : k = n := by omega
      have HL := Lib.hid (show us.length = (sqF n f).length by rw [hl.out, sqF_len, hke])
      rw [hke, List.take_of_length_le (by rw [sqF_len]; exact Nat.le_refl _)] at hS
      clear hke
      go_wp2_with fail
      go_ret
      exact ⟨_, us, rfl, HL.out, hS⟩
theorem emptySquare1_c (x y : Int) (w : World) : Calls Try.prog 71 #[.int .i64 x, .int .i64 y] w (GivesI w 0) := by
  go_enter Try.func71, Try.ntmps71
  go_wp2_with fail
  go_ret
  exact ⟨rfl, St.refl w⟩
theorem emptySquare_c (n : Nat) (w : World) (hn : n ≤ 4096) : Calls Try.prog 36 #[.int .i64 n] w (MakesII w (sqF n fun _ _ => 0)) := by
  have hcf := callFunc_go Try.func71 (by kernel_rfl) (by kernel_rfl)
  have hcall := Lib.hid (filledSquare_c 71 #[] (fun _ _ => 0) n w hn hcf (fun x y W _ _ _ => emptySquare1_c x y W))
  clear hcf
  go_enter Try.func36, Try.ntmps36
  go_wp2_with fail
  refine hcall.out.mono ?_
  rintro e w1 ⟨v, us, rfl, hl, h1⟩
  have Hl := Lib.hid hl
  clear hl
  go_wp2_with fail
  go_ret
  exact ⟨v, us, rfl, Hl.out, h1⟩
end Go.Proofs.Ytgflhgkcmfjkgaa
end

section
/- Comparison of lists: slices.Compare, the reference's CompareLists, slices.IsSortedFunc. -/
namespace Go.Proofs.Ytgflhgkcmfjkgaa
set_option linter.unusedSimpArgs false
set_option linter.unusedVariables false
open Go.RowKit

theorem isNaNC_c (x : Int) (w : World) : Calls Try.prog 108 #[.int .i64 x] w fun e w' => e = .returned (.bool false) ∧ w = w' := by
  have h := ne_f (rfl : x = x)
  go_enter Try.func108, Try.ntmps108
  go_wp2_with fail
  go_ret
  exact ⟨rfl, rfl⟩
def cmp1 (x y : Int) : Int := if x < y then -1 else if y < x then 1 else 0
theorem cmpC_c (x y : Int) (w : World) : Calls Try.prog 69 #[.int .i64 x, .int .i64 y] w fun e w' => e = .returned (.int .i64 (cmp1 x y)) ∧ w = w' := by
  by_cases h1 : x < y
  · rw [cmp1, if_pos h1]
    go_enter Try.func69, Try.ntmps69
    go_wp2_with (go_at_call 108; refine (isNaNC_c _ _).mono ?_; rintro e w3 ⟨rfl, rfl⟩)
    go_ret
    exact ⟨rfl, rfl⟩
  · by_cases h2 : y < x
    · rw [cmp1, if_neg h1, if_pos h2]
      go_enter Try.func69, Try.ntmps69
      go_wp2_with (go_at_call 108; refine (isNaNC_c _ _).mono ?_; rintro e w3 ⟨rfl, rfl⟩)
      go_ret
      exact ⟨rfl, rfl⟩
    · rw [cmp1, if_neg h1, if_neg h2]
      go_enter Try.func69, Try.ntmps69
      go_wp2_with (go_at_call 108; refine (isNaNC_c _ _).mono ?_; rintro e w3 ⟨rfl, rfl⟩)
      go_ret
      exact ⟨rfl, rfl⟩
theorem cmpI_drop {xs ys : List Int} {k : Nat} (h1 : k < xs.length) (h2 : k < ys.length) : cmpI (xs.drop k) (ys.drop k) = if cmp1 (nth xs k) (nth ys k) ≠ 0 then cmp1 (nth xs k) (nth ys k) else cmpI (xs.drop (k + 1)) (ys.drop (k + 1)) := by
  rw [drop_nth h1, drop_nth h2, cmpI, cmp1]
  by_cases h : nth xs k < nth ys k
  · rw [if_pos h, if_pos h, if_pos (by omega)]
  · rw [if_neg h, if_neg h]
    by_cases h' : nth ys k < nth xs k
    · rw [if_pos h', if_pos h', if_pos (by omega)]
    · rw [if_neg h', if_neg h', if_neg (by omega)]
theorem cmpI_e1 {xs ys : List Int} {k : Nat} (h1 : k < xs.length) (h2 : ys.length ≤ k) : cmpI (xs.drop k) (ys.drop k) = 1 := by
  rw [drop_nth h1, List.drop_of_length_le h2]; rfl
theorem cmpI_e2 {xs ys : List Int} {k : Nat} (h1 : xs.length ≤ k) (h2 : k < ys.length) : cmpI (xs.drop k) (ys.drop k) = -1 := by
  rw [drop_nth h2, List.drop_of_length_le h1]; rfl
theorem cmpI_e3 {xs ys : List Int} {k : Nat} (h1 : xs.length ≤ k) (h2 : ys.length ≤ k) : cmpI (xs.drop k) (ys.drop k) = 0 := by
  rw [List.drop_of_length_le h2, List.drop_of_length_le h1]; rfl
set_option maxHeartbeats 1000000 in
set_option maxRecDepth 100000 in
theorem Compare_c (va vb : Value) (xs ys : List Int) (w : World) (ha : RdI w va xs) (hb : RdI w vb ys) :
    Calls Try.prog 35 #[va, vb] w fun e w' => e = .returned (.int .i64 (cmpI xs ys)) ∧ w = w' := by
  have hla := ha.len
  have hlb := hb.len
  have hia := ha.ix
  have hib := hb.ix
  have hca := ha.cell
  have hcb := hb.cell
  have hma := ha.le
  have hmb := hb.le
  go_enter Try.func35, Try.ntmps35
  go_wp2_with fail
  go_loop [5, 6, 7, 8, 11] (fun _ _ _ _ i => ∃ k : Nat, k ≤ xs.length ∧ k ≤ ys.length ∧ i = .int .i64 k ∧ Hid (cmpI (xs.drop k) (ys.drop k) = cmpI xs ys)) (fun _ _ _ _ i => xs.length - (intOf i).toNat)
  case atStart => exact ⟨0, by omega, by omega, rfl, rfl⟩
  case round =>
    obtain ⟨k, hk, hk2, rfl, hI⟩ := hrel
    by_cases k1 : k < xs.length
    · by_cases k2 : k < ys.length
      · have hd := cmpI_drop k1 k2
        by_cases hc : cmp1 (nth xs k) (nth ys k) = 0
        · rw [if_neg (by omega), hI.out] at hd
          have HD := Lib.hid hd
          have HC := Lib.hid hc
          clear hd hc
          go_wp2_with (go_at_call 69; refine (cmpC_c _ _ _).mono ?_; rw [HC.out]; rintro e w3 ⟨rfl, rfl⟩)
          go_round
          case rel => exact ⟨k + 1, by omega, by omega, by go_num, HD.out.symm⟩
          case measure => simp [intOf]; omega
        · rw [if_pos hc, hI.out] at hd
          have HD := Lib.hid hd
          clear hd
          go_wp2_with (go_at_call 69; refine (cmpC_c _ _ _).mono ?_; rintro e w3 ⟨rfl, rfl⟩)
          go_ret
          exact ⟨by rw [HD.out]; rfl, rfl⟩
      · have HD := Lib.hid (cmpI_e1 k1 (show ys.length ≤ k by omega))
        rw [hI.out] at HD
        go_wp2_with fail
        go_ret
        exact ⟨by rw [HD.out]; rfl, rfl⟩
    · by_cases k2 : k < ys.length
      · have HD := Lib.hid (cmpI_e2 (show xs.length ≤ k by omega) k2)
        rw [hI.out] at HD
        go_wp2_with fail
        go_ret
        exact ⟨by rw [HD.out]; rfl, rfl⟩
      · have HD := Lib.hid (cmpI_e3 (show xs.length ≤ k by omega) (show ys.length ≤ k by omega))
        rw [hI.out] at HD
        go_wp2_with fail
        go_ret
        exact ⟨by rw [HD.out]; rfl, rfl⟩

set_option maxHeartbeats 1000000 in
set_option maxRecDepth 100000 in
theorem sCompareLists_c (va vb : Value) (xs ys : List Int) (w : World) (ha : RdI w va xs) (hb : RdI w vb ys) :
    Calls Try.prog 95 #[va, vb] w (GivesI w (cmpI xs ys)) := by
  have hla := ha.len
  have hlb := hb.len
  have hia := ha.ix
  have hib := hb.ix
  have hma := ha.le
  have hmb := hb.le
  go_enter Try.func95, Try.ntmps95
  go_wp2_with fail
  go_loopw [5] (fun i wr => ∃ k : Nat, k ≤ xs.length ∧ k ≤ ys.length ∧ i = .int .i64 k ∧ Hid (cmpI (xs.drop k) (ys.drop k) = cmpI xs ys) ∧ St w.heap.size w wr []) (fun i _ => xs.length - (intOf i).toNat)
  case atStart => exact ⟨0, by omega, by omega, rfl, rfl, St.refl w⟩
  case round =>
    obtain ⟨k, hk, hk2, rfl, hI, hS⟩ := hrel
    by_cases k1 : k < xs.length
    · by_cases k2 : k < ys.length
      · have hd := cmpI_drop k1 k2
        rw [hI.out] at hd
        have hqa := fun s : SS w.heap.size w [] => (s.st.oldI ha).cell k k1
        have hqb := fun s : SS w.heap.size w [] => (s.st.oldI hb).cell k k2
        generalize nth xs k = x at *
        generalize nth ys k = y at *
        rcases Int.lt_trichotomy x y with h | h | h
        · have HD : Hid (cmpI xs ys = -1) := by rw [Hid, hd, if_pos (by rw [cmp1, if_pos h]; decide), cmp1, if_pos h]
          clear hd
          go_wp2_with fail
          have hne : Nonempty (SS _ _ _) := ⟨⟨_, hS⟩⟩
          refine wp_region_st (by kernel_rfl) (by kernel_rfl) hS ?_
          repeat (go_big_quiet_step (fail))
          refine wpQuiet_nil ?_
          rintro _ ⟨s2, rfl⟩
          have hS2 := s2.st
          generalize s2.w = w2 at hS2 ⊢
          go_wp2_with fail
          go_ret
          exact ⟨ret_i64 HD.out.symm, hS2⟩
        · subst h
          rw [if_neg (by simp [cmp1])] at hd
          have HD := Lib.hid hd
          clear hd
          have hirr : ¬ x < x := by omega
          go_wp2_with fail
          have hne : Nonempty (SS _ _ _) := ⟨⟨_, hS⟩⟩
          refine wp_region_st (by kernel_rfl) (by kernel_rfl) hS ?_
          repeat (go_big_quiet_step (fail))
          refine wpQuiet_nil ?_
          rintro _ ⟨s2, rfl⟩
          have hS2 := s2.st
          generalize s2.w = w2 at hS2 ⊢
          go_wp2_with fail
          have hne : Nonempty (SS _ _ _) := ⟨⟨_, hS2⟩⟩
          refine wp_region_st (by kernel_rfl) (by kernel_rfl) hS2 ?_
          repeat (go_big_quiet_step (fail))
          refine wpQuiet_nil ?_
          rintro _ ⟨s2, rfl⟩
          have hS3 := s2.st
          generalize s2.w = w3 at hS3 ⊢
          go_wp2_with fail
          go_roundw
          case rel => exact ⟨k + 1, by omega, by omega, by go_num, HD.out.symm, hS3⟩
          case measure => simp [intOf]; omega
        · have hn : ¬ x < y := by omega
          have HD : Hid (cmpI xs ys = 1) := by rw [Hid, hd, if_pos (by rw [cmp1, if_neg hn, if_pos h]; decide), cmp1, if_neg hn, if_pos h]
          clear hd
          go_wp2_with fail
          have hne : Nonempty (SS _ _ _) := ⟨⟨_, hS⟩⟩
          refine wp_region_st (by kernel_rfl) (by kernel_rfl) hS ?_
          repeat (go_big_quiet_step (fail))
          refine wpQuiet_nil ?_
          rintro _ ⟨s2, rfl⟩
          have hS2 := s2.st
          generalize s2.w = w2 at hS2 ⊢
          go_wp2_with fail
          have hne : Nonempty (SS _ _ _) := ⟨⟨_, hS2⟩⟩
          refine wp_region_st (by kernel_rfl) (by kernel_rfl) hS2 ?_
          repeat (go_big_quiet_step (fail))
          refine wpQuiet_nil ?_
          rintro _ ⟨s2, rfl⟩
          have hS3 := s2.st
          generalize s2.w = w3 at hS3 ⊢
          go_wp2_with fail
          go_ret
          exact ⟨ret_i64 HD.out.symm, hS3⟩
      · have HD := Lib.hid (cmpI_e1 k1 (show ys.length ≤ k by omega))
        rw [hI.out] at HD
        go_wp2_with fail
        go_ret
        exact ⟨ret_i64 HD.out.symm, hS⟩
    · by_cases k2 : k < ys.length
      · have HD := Lib.hid (cmpI_e2 (show xs.length ≤ k by omega) k2)
        rw [hI.out] at HD
        go_wp2_with fail
        go_ret
        exact ⟨ret_i64 HD.out.symm, hS⟩
      · have HD := Lib.hid (cmpI_e3 (show xs.length ≤ k by omega) (show ys.length ≤ k by omega))
        rw [hI.out] at HD
        go_wp2_with fail
        go_ret
        exact ⟨ret_i64 HD.out.symm, hS⟩
end Go.Proofs.Ytgflhgkcmfjkgaa
end

section
/- make inside a region that draws its order. A region that loads cells and writes them by its last stores: what is held of the world is asked until the first of these stores alone. A region that loads cells and writes them at its end: an operation taken first, by a chain of operations that wait for each other. -/
namespace Go.Proofs.Ytgflhgkcmfjkgaa
set_option linter.unusedSimpArgs false
set_option linter.unusedVariables false
open Go.RowKit
theorem cell_al {w : World} {o : Obj} {a : Addr} {v : Value} (h : w.cell? a = some v) : (w.alloc o).cell? a = some v := by
  rw [World.cell?_alloc_some _ _ _ (by rw [h]; rfl)]; exact h
theorem cell_dr {w : World} {a : Addr} {v : Value} (h : w.cell? a = some v) : w.drew.cell? a = some v := h
theorem cell_sc {w : World} {p a : Addr} {u v : Value} (hp : p.block ≠ a.block) (h : w.cell? a = some v) : (w.setCell p u).cell? a = some v := by
  rw [World.cell?_setCell_far _ _ _ _ hp]; exact h
section
variable {P : Program} {ops : Array Oper} {o : Oper} {a : Act} {K : Act → World → Prop} {Q : Exit → Act → World → Prop} {E : Prop}
end
section
variable {ops : Array Oper} {o : Oper} {a : Act} {K : Act → World → Prop} {Q : Exit → Act → World → Prop} {E : Prop} {B : Nat} {w0 w : World} {L : List Ent}
end

section
variable {P : Program} {ops : Array Oper} {Q : Exit → Act → World → Prop} {md : Region.Mode} {S : World → Prop} {st : Nat}

/-- whichever order is picked; S is shown behind every operation till operation st has come up -/
def anyG (P : Program) (md : Region.Mode) (ops : Array Oper) (Q : Exit → Act → World → Prop) (S : World → Prop) (st : Nat) : Nat → Array Bool → Act → World → Prop
  | 0, listed, a, w => Region.ready md ops listed = [] ∧ Q .normal a w
  | n + 1, listed, a, w => (Region.ready md ops listed = [] → Q .normal a w) ∧
    ∀ i ∈ Region.ready md ops listed, wpOp P ops Q i (fun a' w' => ((listed.setIfInBounds i true).getD st true = false → S w') ∧ anyG P md ops Q S st n (listed.setIfInBounds i true) a' w') a w

theorem wpAny_of_G : ∀ (n : Nat) (listed : Array Bool) (a : Act) (w : World), anyG P md ops Q S st n listed a w → wpAny P md ops Q n listed a w
  | 0, _, _, _, h => h
  | n + 1, _, _, _, h => ⟨h.1, fun i hi => wpOp_mono (fun a' w' h' => wpAny_of_G n _ a' w' h'.2) (h.2 i hi)⟩

theorem set_un {listed : Array Bool} {j k : Nat} (hne : j ≠ k) (h : listed.getD k true = false) : (listed.setIfInBounds j true).getD k true = false := by rw [getD_set_ne true hne]; exact h
/-- what waits for an operation that has not come up cannot come up -/
theorem not_ready {listed : Array Bool} {j k : Nat} (hk : listed.getD k true = false) (hw : ∃ o, ops[j]? = some o ∧ ∃ e ∈ o.after, Region.binds md e = true ∧ e.on = k) : j ∉ Region.ready md ops listed := by
  intro h
  obtain ⟨_, o, ho, hall⟩ := mem_ready.1 h
  obtain ⟨o', ho', e, he, hb, rfl⟩ := hw
  rw [ho] at ho'; cases ho'
  have h1 := hall e he hb
  rcases Nat.lt_or_ge e.on listed.size with h' | h'
  · simp [h'] at hk h1; rw [hk] at h1; cases h1
  · simp [Array.getElem?_eq_none h'] at h1

/-- an operation that yields in whatever world may be taken first -/
theorem anyG_pure {i : Nat} {oi : Oper} {v : Value} (hi : ops[i]? = some oi) (hsel : ∀ (j : Nat) (o : Oper) cs b, ops[j]? = some o → o.op ≠ .select cs b)
    (hQ : ∀ c a w, Q (.panic c) (a.put oi.dst v) w → Q (.panic c) a w) (hne : i ≠ st) :
    ∀ (n : Nat) (listed : Array Bool) (a : Act) (w : World),
      (∀ j oj, ops[j]? = some oj → j ≠ i → listed.getD j true = false → (∀ e ∈ oj.after, Region.binds md e = true → e.on ≠ i) → oi.apart ops oj = true) →
      i ∈ Region.ready md ops listed → YieldsIf P ops (fun _ => True) oi v a → (listed.getD st true = false → S w) →
      anyG P md ops Q S st n (listed.setIfInBounds i true) (a.put oi.dst v) w → anyG P md ops Q S st (n + 1) listed a w := by
  intro n
  induction n with
  | zero =>
    intro listed a w _ hr hy hS H
    refine ⟨fun h => (by rw [h] at hr; cases hr), fun j hj => ?_⟩
    by_cases hji : j = i
    · subst hji; exact hy.wpOp hi trivial ⟨fun e => hS (by rwa [getD_set_ne true hne] at e), H⟩
    · have := ready_mono hj hji
      rw [H.1] at this
      cases this
  | succ n ih =>
    intro listed a w hfree hr hy hS H
    have hiu : listed.getD i true = false := (mem_ready.1 hr).1
    refine ⟨fun h => (by rw [h] at hr; cases hr), fun j hj => ?_⟩
    by_cases hji : j = i
    · subst hji; exact hy.wpOp hi trivial ⟨fun e => hS (by rwa [getD_set_ne true hne] at e), H⟩
    · have h1 := H.2 j (ready_mono hj hji)
      obtain ⟨hjun, oj, hoj, hall⟩ := mem_ready.1 hj
      have hnot : ∀ e ∈ oj.after, Region.binds md e = true → e.on ≠ i := fun e he hb heq => not_ready hiu ⟨oj, hoj, e, he, hb, heq⟩ hj
      have h2 := wpOp_putIf hoj (hfree j oj hoj hji hjun hnot) (fun cs b => hsel i oi cs b hi) (fun cs b => hsel j oj cs b hoj) hQ hy h1
      refine wpOp_mono (fun a' w' h3 => ?_) h2
      have hSw : (listed.setIfInBounds j true).getD st true = false → S w' := fun e => h3.2.1 (by rw [Array.setIfInBounds_comm _ _ (Ne.symm hji), getD_set_ne true hne]; exact e)
      refine ⟨hSw, ih (listed.setIfInBounds j true) a' w' ?_ (ready_mono hr (Ne.symm hji)) h3.1 hSw ?_⟩
      · intro m om hm hmi hun hno
        refine hfree m om hm hmi ?_ hno
        by_cases hjm : j = m
        · subst hjm; exact hjun
        · rwa [getD_set_ne true hjm] at hun
      · rw [Array.setIfInBounds_comm _ _ hji]
        exact h3.2.2
/-- number i is taken first, whatever the world -/
theorem takeP {i : Nat} {oi : Oper} {v : Value} {n : Nat} {listed : Array Bool} {a : Act} {w : World} (hi : ops[i]? = some oi)
    (hs : (Region.noSelect ops && Region.free md ops listed i && (Region.ready md ops listed).contains i && (!(i == st))) = true)
    (hQ : ∀ c a w, Q (.panic c) (a.put oi.dst v) w → Q (.panic c) a w) (hw : Region.wanted oi (yielded ops a.tmps) = true) (hy : ∀ w, (execOp a.eval oi).run P w = .ok (.value v) w) (hS : S w)
    (h : anyG P md ops Q S st n (listed.setIfInBounds i true) (a.put oi.dst v) w) : anyG P md ops Q S st (n + 1) listed a w := by
  simp only [Bool.and_eq_true, Bool.not_eq_true', beq_eq_false_iff_ne] at hs
  obtain ⟨⟨⟨h1, h2⟩, h3⟩, h4⟩ := hs
  exact anyG_pure hi (Region.noSelect_spec h1) hQ h4 n listed a w (Region.free_spec hi h2) (by simpa using h3) (.inl ⟨hw, fun w _ => hy w⟩) (fun _ => hS) h

def waits (md : Region.Mode) (ops : Array Oper) (j k : Nat) : Bool := match ops[j]? with
  | some o => o.after.any fun e => Region.binds md e && e.on == k
  | none => false
theorem waits_spec {j k : Nat} (h : waits md ops j k = true) : ∃ o, ops[j]? = some o ∧ ∃ e ∈ o.after, Region.binds md e = true ∧ e.on = k := by
  unfold waits at h
  cases ho : ops[j]? with
  | none => rw [ho] at h; cases h
  | some o =>
    rw [ho] at h
    simp only [Array.any_eq_true', Bool.and_eq_true, beq_iff_eq] at h
    obtain ⟨e, he, hb, hk⟩ := h
    exact ⟨o, rfl, e, he, hb, hk⟩
def AllG (P : Program) (md : Region.Mode) (ops : Array Oper) (Q : Exit → Act → World → Prop) (S : World → Prop) (st n : Nat) (listed : Array Bool) (a : Act) (w : World) (rs : List Nat) : Prop :=
  ∀ i ∈ rs, wpOp P ops Q i (fun a' w' => ((listed.setIfInBounds i true).getD st true = false → S w') ∧ anyG P md ops Q S st n (listed.setIfInBounds i true) a' w') a w
theorem AllG.nil {n : Nat} {listed : Array Bool} {a : Act} {w : World} : AllG P md ops Q S st n listed a w [] := fun _ h => by cases h
/-- an operation ahead of st -/
theorem AllG.cons {n : Nat} {listed : Array Bool} {a : Act} {w : World} {i : Nat} {o : Oper} {rs : List Nat} (ho : ops[i]? = some o)
    (h : ∀ K' : Act → World → Prop, Shut (∀ a w, S w → (S w → anyG P md ops Q S st n (listed.setIfInBounds i true) a w) → K' a w) → if Region.wanted o (yielded ops a.tmps) = true then Oper.wp P o a w K' Q else K' (a.put o.dst undef) w)
    (hs : AllG P md ops Q S st n listed a w rs) : AllG P md ops Q S st n listed a w (i :: rs) := fun j hj => by
  rcases List.mem_cons.1 hj with rfl | hj
  · exact wpOp_step ho (fun K' hK => h K' (fun a w hS hW => hK a w ⟨fun _ => hS, hW hS⟩))
  · exact hs j hj
/-- st itself, or one behind it -/
theorem AllG.last {n : Nat} {listed : Array Bool} {a : Act} {w : World} {i : Nat} {o : Oper} {rs : List Nat} (ho : ops[i]? = some o) (hl : (listed.setIfInBounds i true).getD st true = true)
    (h : ∀ K' : Act → World → Prop, Shut (∀ a w, anyG P md ops Q S st n (listed.setIfInBounds i true) a w → K' a w) → if Region.wanted o (yielded ops a.tmps) = true then Oper.wp P o a w K' Q else K' (a.put o.dst undef) w)
    (hs : AllG P md ops Q S st n listed a w rs) : AllG P md ops Q S st n listed a w (i :: rs) := fun j hj => by
  rcases List.mem_cons.1 hj with rfl | hj
  · exact wpOp_step ho (fun K' hK => h K' (fun a w hW => hK a w ⟨fun e => (by rw [hl] at e; cases e), hW⟩))
  · exact hs j hj
theorem readyG {rs : List Nat} {n : Nat} {listed : Array Bool} {a : Act} {w : World} (hr : Region.ready md ops listed = rs) (hne : rs ≠ [])
    (h : AllG P md ops Q S st n listed a w rs) : anyG P md ops Q S st (n + 1) listed a w := ⟨fun h0 => absurd (hr ▸ h0) hne, hr ▸ h⟩
theorem doneG {listed : Array Bool} {a : Act} {w : World} (hr : Region.ready md ops listed = []) (h : Q .normal a w) : ∀ n, anyG P md ops Q S st n listed a w
  | 0 => ⟨hr, h⟩
  | _ + 1 => ⟨fun _ => h, by rw [hr]; simp⟩
/-- the beginning -/
theorem regionG {id : Nat} {a : Act} {w : World} (S : World → Prop) (st : Nat) (hm : P.follows .mixedOrders = true) (hS : S w.drew)
    (h : S w.drew → anyG P .any ops (NoPanic Q) S st ops.size (Array.replicate ops.size false) a w.drew) : (Code.region id ops true).wp P Q a w :=
  wp_region_noPanic (wp_region_any hm (wpAny_of_G _ _ _ _ (h hS)))
end

section
variable {P : Program} {ops : Array Oper} {Q : Exit → Act → World → Prop} {md : Region.Mode} {S : World → Prop} {st : Nat}
theorem anyG_firstL {i : Nat} {oi : Oper} {v : Value} (ks : List Nat) (hi : ops[i]? = some oi) (hsel : ∀ (j : Nat) (o : Oper) cs b, ops[j]? = some o → o.op ≠ .select cs b)
    (hQ : ∀ c a w, Q (.panic c) (a.put oi.dst v) w → Q (.panic c) a w)
    (hks : ∀ k ∈ ks, k = i ∨ ∃ m ∈ i :: ks, ∃ o, ops[k]? = some o ∧ ∃ e ∈ o.after, Region.binds md e = true ∧ e.on = m) (hst : ∃ m ∈ i :: ks, ∃ o, ops[st]? = some o ∧ ∃ e ∈ o.after, Region.binds md e = true ∧ e.on = m) :
    ∀ (n : Nat) (listed : Array Bool) (a : Act) (w : World), (∀ k ∈ ks, listed.getD k true = false) → listed.getD st true = false →
      (∀ j oj, ops[j]? = some oj → j ≠ i → listed.getD j true = false → (∀ e ∈ oj.after, Region.binds md e = true → e.on ≠ i) → oi.apart ops oj = true) →
      i ∈ Region.ready md ops listed → YieldsIf P ops S oi v a → S w →
      anyG P md ops Q S st n (listed.setIfInBounds i true) (a.put oi.dst v) w → anyG P md ops Q S st (n + 1) listed a w := by
  intro n
  induction n with
  | zero =>
    intro listed a w hk hs _ hr hy hS H
    refine ⟨fun h => (by rw [h] at hr; cases hr), fun j hj => ?_⟩
    by_cases hji : j = i
    · subst hji; exact hy.wpOp hi hS ⟨fun _ => hS, H⟩
    · have := ready_mono hj hji
      rw [H.1] at this
      cases this
  | succ n ih =>
    intro listed a w hk hs hfree hr hy hS H
    have hiu : listed.getD i true = false := (mem_ready.1 hr).1
    have hun : ∀ m ∈ i :: ks, listed.getD m true = false := fun m hm => by
      rcases List.mem_cons.1 hm with rfl | hm
      · exact hiu
      · exact hk m hm
    refine ⟨fun h => (by rw [h] at hr; cases hr), fun j hj => ?_⟩
    by_cases hji : j = i
    · subst hji; exact hy.wpOp hi hS ⟨fun _ => hS, H⟩
    · have hjk : j ∉ ks := by
        intro hjm
        rcases hks j hjm with e | ⟨m, hm, hw⟩
        · exact hji e
        · exact not_ready (hun m hm) hw hj
      obtain ⟨ms, hms, hws⟩ := hst
      have hjs : j ≠ st := by
        rintro rfl
        exact not_ready (hun ms hms) hws hj
      have h1 := H.2 j (ready_mono hj hji)
      obtain ⟨hjun, oj, hoj, hall⟩ := mem_ready.1 hj
      have hnot : ∀ e ∈ oj.after, Region.binds md e = true → e.on ≠ i := fun e he hb heq => not_ready hiu ⟨oj, hoj, e, he, hb, heq⟩ hj
      have h2 := wpOp_putIf hoj (hfree j oj hoj hji hjun hnot) (fun cs b => hsel i oi cs b hi) (fun cs b => hsel j oj cs b hoj) hQ hy h1
      have hsj : (listed.setIfInBounds j true).getD st true = false := set_un hjs hs
      refine wpOp_mono (fun a' w' h3 => ?_) h2
      have hSw : S w' := h3.2.1 (set_un hjs (set_un (fun e => by subst e; exact not_ready (hun ms hms) hws hr) hs))
      refine ⟨fun _ => hSw, ih (listed.setIfInBounds j true) a' w' (fun k hkm => set_un (fun e => hjk (e ▸ hkm)) (hk k hkm)) hsj ?_ (ready_mono hr (Ne.symm hji)) h3.1 hSw ?_⟩
      · intro m om hm hmi hun hno
        refine hfree m om hm hmi ?_ hno
        by_cases hjm : j = m
        · subst hjm; exact hjun
        · rwa [getD_set_ne true hjm] at hun
      · rw [Array.setIfInBounds_comm _ _ hji]
        exact h3.2.2
/-- number i is taken first; ks: operations that wait for it, for each other, and st for one of them -/
theorem takeH {i : Nat} (ks : List Nat) {oi : Oper} {v : Value} {n : Nat} {listed : Array Bool} {a : Act} {w : World} (hi : ops[i]? = some oi)
    (hs : (Region.noSelect ops && Region.free md ops listed i && (Region.ready md ops listed).contains i && (ks.all fun k => k == i || (i :: ks).any fun m => waits md ops k m) && ((i :: ks).any fun m => waits md ops st m) && (ks.all fun k => !listed.getD k true) && (!listed.getD st true)) = true)
    (hQ : ∀ c a w, Q (.panic c) (a.put oi.dst v) w → Q (.panic c) a w) (hw : Region.wanted oi (yielded ops a.tmps) = true) (hy : ∀ w, S w → (execOp a.eval oi).run P w = .ok (.value v) w) (hS : S w)
    (h : anyG P md ops Q S st n (listed.setIfInBounds i true) (a.put oi.dst v) w) : anyG P md ops Q S st (n + 1) listed a w := by
  simp only [Bool.and_eq_true, Bool.not_eq_true', Bool.or_eq_true, beq_iff_eq, List.all_eq_true] at hs
  obtain ⟨⟨⟨⟨⟨⟨h1, h2⟩, h3⟩, h4⟩, h5⟩, h6⟩, h7⟩ := hs
  refine anyG_firstL ks hi (Region.noSelect_spec h1) hQ (fun k hk => ?_) ?_ n listed a w h6 h7 (Region.free_spec hi h2) (by simpa using h3) (.inl ⟨hw, hy⟩) hS h
  · rcases h4 k hk with e | e
    · exact .inl e
    · obtain ⟨m, hm, hmw⟩ := List.any_eq_true.1 e
      exact .inr ⟨m, hm, waits_spec hmw⟩
  · obtain ⟨m, hm, hmw⟩ := List.any_eq_true.1 h5
    exact ⟨m, hm, waits_spec hmw⟩
end

end Go.Proofs.Ytgflhgkcmfjkgaa
end

section
/- slices.SortFunc at [][]int64 with slices.Compare: rows that a call owns, put in order; slices.IsSortedFunc. -/
namespace Go.Proofs.Ytgflhgkcmfjkgaa
set_option linter.unusedSimpArgs false
set_option linter.unusedVariables false
open Go.RowKit
attribute [local go_sem ↓] Go.wp_at_zero Go.wp_at_succ

def Try.mSortR_ren : Go.Shelf.Ren := ⟨fun | 6 => 34 | 15 => 68 | 14 => 67 | 28 => 106 | 29 => 107 | 20 => 98 | 21 => 99 | 22 => 100 | 23 => 101 | 24 => 102 | 25 => 103 | 26 => 104 | 27 => 105 | 46 => 126 | 47 => 127 | 48 => 128 | 49 => 129 | 50 => 130 | 57 => 135 | n => n, fun | 22 => 33 | 24 => 30 | 25 => 67 | 3 => 3 | 39 => 105 | 0 => 0 | 53 => 133 | 55 => 99 | 4 => 4 | 46 => 127 | 45 => 126 | 50 => 73 | 5 => 5 | 9 => 9 | 66 => 146 | 70 => 150 | 76 => 155 | 77 => 156 | n => n, fun | n => n⟩
theorem Try.mSortR : Go.Proofs.SlLaysF.n6 Try.prog Try.mSortR_ren := {
  mixed := by kernel_rfl
  f6 := ⟨Try.f34.name, by decide, Try.func34.trans (congrArg some (by kernel_rfl))⟩
  f14 := ⟨Try.f67.name, by decide, Try.func67.trans (congrArg some (by kernel_rfl))⟩
  f15 := Try.func68.trans (congrArg some (by kernel_rfl))
  f20 := ⟨Try.f98.name, by decide, Try.func98.trans (congrArg some (by kernel_rfl))⟩
  f21 := ⟨Try.f99.name, by decide, Try.func99.trans (congrArg some (by kernel_rfl))⟩
  f22 := ⟨Try.f100.name, by decide, Try.func100.trans (congrArg some (by kernel_rfl))⟩
  f23 := ⟨Try.f101.name, by decide, Try.func101.trans (congrArg some (by kernel_rfl))⟩
  f24 := ⟨Try.f102.name, by decide, Try.func102.trans (congrArg some (by kernel_rfl))⟩
  f25 := ⟨Try.f103.name, by decide, Try.func103.trans (congrArg some (by kernel_rfl))⟩
  f26 := ⟨Try.f104.name, by decide, Try.func104.trans (congrArg some (by kernel_rfl))⟩
  f27 := ⟨Try.f105.name, by decide, Try.func105.trans (congrArg some (by kernel_rfl))⟩
  f28 := Try.func106.trans (congrArg some (by kernel_rfl))
  f29 := Try.func107.trans (congrArg some (by kernel_rfl))
  f46 := ⟨Try.f126.name, by decide, Try.func126.trans (congrArg some (by kernel_rfl))⟩
  f47 := Try.func127.trans (congrArg some (by kernel_rfl))
  f48 := Try.func128.trans (congrArg some (by kernel_rfl))
  f49 := ⟨Try.f129.name, by decide, Try.func129.trans (congrArg some (by kernel_rfl))⟩
  f50 := ⟨Try.f130.name, by decide, Try.func130.trans (congrArg some (by kernel_rfl))⟩
  f57 := ⟨Try.f135.name, by decide, Try.func135.trans (congrArg some (by kernel_rfl))⟩
  t0 := Try.underlying0
  a0 := Try.isAgg0
  z0 := Try.sizeOf0
  v0 := Try.zeroValue0
  t3 := Try.underlying3
  a3 := Try.isAgg3
  z3 := Try.sizeOf3
  v3 := Try.zeroValue3
  t4 := Try.underlying4
  a4 := Try.isAgg4
  z4 := Try.sizeOf4
  v4 := Try.zeroValue4
  t5 := Try.underlying5
  a5 := Try.isAgg5
  z5 := Try.sizeOf5
  v5 := Try.zeroValue5
  t9 := Try.underlying9
  a9 := Try.isAgg9
  z9 := Try.sizeOf9
  v9 := Try.zeroValue9
  t22 := Try.underlying33
  a22 := Try.isAgg33
  z22 := Try.sizeOf33
  v22 := Try.zeroValue33
  a24 := Try.isAgg30
  z24 := Try.sizeOf30
  t25 := Try.underlying67
  a25 := Try.isAgg67
  z25 := Try.sizeOf67
  v25 := Try.zeroValue67
  t39 := Try.underlying105
  a39 := Try.isAgg105
  z39 := Try.sizeOf105
  v39 := Try.zeroValue105
  t45 := Try.underlying126
  a45 := Try.isAgg126
  z45 := Try.sizeOf126
  v45 := Try.zeroValue126
  t46 := Try.underlying127
  a46 := Try.isAgg127
  z46 := Try.sizeOf127
  v46 := Try.zeroValue127
  t50 := Try.underlying73
  a50 := Try.isAgg73
  z50 := Try.sizeOf73
  v50 := Try.zeroValue73
  t53 := Try.underlying133
  a53 := Try.isAgg133
  z53 := Try.sizeOf133
  v53 := Try.zeroValue133
  t55 := Try.underlying99
  a55 := Try.isAgg99
  z55 := Try.sizeOf99
  v55 := Try.zeroValue99
  t66 := Try.underlying146
  a66 := Try.isAgg146
  z66 := Try.sizeOf146
  v66 := Try.zeroValue146
  t70 := Try.underlying150
  a70 := Try.isAgg150
  z70 := Try.sizeOf150
  v70 := Try.zeroValue150
  t76 := Try.underlying155
  a76 := Try.isAgg155
  z76 := Try.sizeOf155
  v76 := Try.zeroValue155
  t77 := Try.underlying156
  a77 := Try.isAgg156
  z77 := Try.sizeOf156
  v77 := Try.zeroValue156
}

/-! ### a row of any kind -/
theorem holds_of_blockE {α : Type} [Inhabited α] (enc : α → Value) {w : World} {g : Nat} {cur : Array Value} {e : TypeId} {ss : List α} (hb : w.heap[g]? = some (.cells cur e (0, 0))) (ht : cur.toList.take ss.length = ss.map enc) : Go.Sort.Holds enc w g 0 ss.toArray := by
  intro j hj
  have hj' : j < ss.length := by simpa using hj
  refine ⟨?_, by simp [World.frozen?, hb]⟩
  have h1 : (cur.toList.take ss.length)[j]? = (ss.map enc)[j]? := by rw [ht]
  rw [List.getElem?_take_of_lt hj'] at h1
  simp only [World.cell?, hb, Nat.zero_add]
  simp only [Option.isSome_none, Bool.false_eq_true, if_false]
  rw [← Array.getElem?_toList, h1]
  simp [hj']
theorem heap_sortedE {α : Type} [Inhabited α] (enc : α → Value) {w : World} {g n : Nat} {os : Array Obj} {cur : Array Value} {e : TypeId} {fr : Nat × Nat} (d : Array α) (hb : w.heap[g]? = some (.cells cur e fr)) :
    (Go.Sort.grow (Go.Sort.putRow enc (Go.Sort.ahead w n) g 0 d) os).heap[g]? = some (.cells (Go.Sort.putCells enc 0 d cur) e fr) := by
  have hg : g < w.heap.size := (Array.getElem?_eq_some_iff.1 hb).1
  rw [Go.Sort.heap_grow_old _ _ (by simpa using hg)]
  simp [Go.Sort.putRow, Go.Sort.mapBlock, Go.Sort.ahead, Array.getElem?_modify, hb, Go.Sort.onCells]
theorem grownBy_sortedE {α : Type} [Inhabited α] (enc : α → Value) {w : World} {g n : Nat} {os : Array Obj} (d : Array α) : w.grownBy (Go.Sort.grow (Go.Sort.putRow enc (Go.Sort.ahead w n) g 0 d) os) (some g) := by
  refine ⟨rfl, rfl, rfl, by simp, fun k hk hne => ?_⟩
  rw [Go.Sort.heap_grow_old _ _ (by simpa using hk)]
  have : g ≠ k := fun e => hne (by rw [e])
  simp [Go.Sort.putRow, Go.Sort.mapBlock, Go.Sort.ahead, Array.getElem?_modify, this]
theorem take_putCellsE {α : Type} [Inhabited α] (enc : α → Value) (cur : Array Value) (d : Array α) (h : d.size ≤ cur.size) : (Go.Sort.putCells enc 0 d cur).toList.take d.size = d.toList.map enc := by
  apply List.ext_getElem?
  intro j
  by_cases hj : j < d.size
  · rw [List.getElem?_take_of_lt hj, Array.getElem?_toList]
    simp [Go.Sort.putCells, hj, show j < cur.size by omega]
  · rw [List.getElem?_take_eq_none (by omega), List.getElem?_eq_none (by simp; omega)]

end Go.Proofs.Ytgflhgkcmfjkgaa
end

section
/- slices.SortFunc at [][]int64 with slices.Compare: the rows of an owned list of rows are put in order. -/
namespace Go.Proofs.Ytgflhgkcmfjkgaa
set_option linter.unusedSimpArgs false
set_option linter.unusedVariables false
open Go.RowKit

theorem callR_cmp : ∀ (args : Array Value) (W : World), (callFunc 35 args).run Try.prog W = .ok (.enter 35 args) W :=
  fun args W => callFunc_go (P := Try.prog) Try.func35 (by kernel_rfl) (by kernel_rfl) args W
def cfR (A : List (List Int)) (x y : Fin A.length) : Int := cmpI (xat A x) (xat A y)
theorem swoR (A : List (List Int)) : Go.Sort.SWO (Go.Proofs.ltOf (cfR A)) where
  irrefl x := by simp [Go.Proofs.ltOf, cfR, cmpI_self]
  trans x y z h1 h2 := by
    have a1 := of_decide_eq_true h1
    have a2 := of_decide_eq_true h2
    refine decide_eq_true ?_
    unfold cfR at *
    have h3 := cmpI_trans (a := xat A x) (b := xat A y) (c := xat A z) (by omega) (by omega)
    rcases Int.lt_or_le (cmpI (xat A x) (xat A z)) 0 with h | h
    · exact h
    · have h4 := cmpI_eq (a := xat A x) (b := xat A z) (by omega)
      rw [h4] at a1
      have := cmpI_neg (xat A y) (xat A z)
      omega
  ntrans x y z h1 h2 := by
    have a1 := of_decide_eq_false h1
    have a2 := of_decide_eq_false h2
    refine decide_eq_false ?_
    unfold cfR at *
    have n1 := cmpI_neg (xat A x) (xat A y)
    have n2 := cmpI_neg (xat A y) (xat A z)
    have n3 := cmpI_neg (xat A x) (xat A z)
    have h3 := cmpI_trans (a := xat A z) (b := xat A y) (c := xat A x) (by omega) (by omega)
    omega
theorem fin_map {α : Type} (us : List α) (d : α) {n : Nat} (h : us.length = n) : (List.finRange n).map (fun k : Fin n => us.getD k d) = us := by
  subst h
  apply List.ext_getElem
  · simp
  · intro i h1 h2
    simp at h1 ⊢
theorem rows_fin {us : List Value} {A : List (List Int)} (h : us.length = A.length) : rowsI us A = (List.finRange A.length).map fun k : Fin A.length => row 2 (vat us k) (iv (xat A k)) := by
  apply List.ext_getElem
  · simp [rowsI, h]
  · intro i h1 h2
    simp [rowsI, h] at h1
    simp [rowsI, vat, xat, h, h1]
set_option maxHeartbeats 1000000 in
theorem SortRows_c {B : Nat} {w0 w : World} {L : List Ent} {v : Value} {us : List Value} {A : List (List Int)} (hS : St B w0 w (own2 v us A ++ L)) (hl : us.length = A.length) (hlen : A.length < 100000) :
    Calls Try.prog 34 #[v, .func (.func 35) #[] #[]] w fun e w' => ∃ us' : List Value, e = .returned (.tuple #[]) ∧ us'.length = A.length ∧ St B w0 w' (own2 v us' (srtL A) ++ L) := by
  have hi : (own2 v us A ++ L)[0]? = some (row 30 v us) := rfl
  by_cases h0 : A = []
  · subst h0
    have hu : us = [] := by simpa using hl
    subst hu
    obtain ⟨a, c, hv⟩ := (hS.rd 0 hi).sl.sh
    subst hv
    refine Calls.mono (Go.Proofs.AnyF.slices_SortFunc_none (P := Try.prog) (ρ := Try.mSortR_ren) { Try.mSortR with } a c (.func (.func 35) #[] #[]) w) ?_
    rintro e w' ⟨rfl, rfl⟩
    exact ⟨[], rfl, rfl, hS⟩
  · have hpos : 0 < A.length := by cases A with
      | nil => exact absurd rfl h0
      | cons _ _ => simp
    haveI : Inhabited (Fin A.length) := ⟨⟨0, hpos⟩⟩
    have hrow : ∀ {W : World} {u : List Value}, St B w0 W (row 30 v u :: (rowsI us A ++ L)) → ∀ k : Fin A.length, RdI W (vat us k) (xat A k) := by
      intro W u h k
      refine h.rdI (k + 1) (e := 2) ?_
      rw [List.getElem?_cons_succ, List.getElem?_append_left (by rw [rowsI_len hl]; exact k.isLt)]
      exact rowsI_get hl k.isLt
    have hok := hS.ok _ (List.mem_of_getElem? hi)
    rcases hok with ⟨hp, _⟩ | ⟨_, hv, hu⟩ | ⟨_, g, cap, cur, hv, hB, hh, h1, h2, h3, h4⟩
    · simp [row] at hp
    · simp only [row] at hu
      rw [hu] at hl; simp at hl; omega
    · simp only [row] at hv h1 h4 hh
      subst hv
      have hblk : g < w.heap.size := (Array.getElem?_eq_some_iff.1 hh).1
      have hOne : Go.Proofs.OneCell (fun k : Fin A.length => vat us k) := fun k => (hrow hS k).sl.one
      have hd : (List.finRange A.length).toArray.size = us.length := by simp [hl]
      have hH : Go.Sort.Holds (fun k : Fin A.length => vat us k) w g 0 (List.finRange A.length).toArray := holds_of_blockE _ hh (by
        rw [List.length_finRange]
        exact (by rw [← hl]; exact h4 : cur.toList.take A.length = us).trans (fin_map us undef hl).symm)
      have putAll : ∀ (m : Nat) (os : Array Obj) (dk : Array (Fin A.length)), dk.size = us.length → St B w0 (Go.Proofs.sortWorld (fun k : Fin A.length => vat us k) w g 0 m dk os) (row 30 (.slice (some ⟨g, 0, none⟩) us.length cap) (dk.toList.map fun k : Fin A.length => vat us k) :: (rowsI us A ++ L)) := by
        intro m os dk hs
        have := hS.put 0 hi (w' := Go.Proofs.sortWorld (fun k : Fin A.length => vat us k) w g 0 m dk os) ?_ (row 30 (.slice (some ⟨g, 0, none⟩) us.length cap) (dk.toList.map fun k : Fin A.length => vat us k)) (.inr (.inr ⟨rfl, g, cap, _, ?_, hB, heap_sortedE (fun k : Fin A.length => vat us k) _ hh, ?_, h2, ?_, ?_⟩)) (.inl rfl)
        · exact this
        · exact grownBy_sortedE (fun k : Fin A.length => vat us k) dk
        · simp [row, hs]
        · simp [row, hs]; exact h1
        · simp [Go.Sort.putCells, h3]
        · have := take_putCellsE (fun k : Fin A.length => vat us k) cur dk (by omega)
          rw [hs] at this
          simpa [row, hs] using this
      have hcmp : Go.Proofs.CmpLays1 Try.prog 35 #[] (fun k : Fin A.length => vat us k) (cfR A) g 0 (List.finRange A.length).toArray.size w := by
        refine Go.Proofs.CmpReads.lays fun m os dk hs x y => ?_
        have hp := putAll m os dk (by rw [hs, hd])
        refine (Compare_c _ _ _ _ _ (hrow hp x) (hrow hp y)).mono ?_
        rintro e w' ⟨rfl, rfl⟩
        exact ⟨rfl, 0, rfl⟩
      have hc := Go.Proofs.Any.slices_SortFunc (P := Try.prog) (ρ := Try.mSortR_ren) Try.mSortR (fun k : Fin A.length => vat us k) hOne (cfR A) (swoR A) 35 #[] g 0 cap (List.finRange A.length).toArray w callR_cmp hcmp hH hblk (by rw [hd]; omega)
      rw [hd] at hc
      refine Calls.mono hc ?_
      rintro e w' ⟨rfl, d', n, os, hperm, hso, rfl⟩
      have hds : d'.size = us.length := by have := hperm.1; omega
      have hpm : d'.toList.Perm (List.finRange A.length) := by
        have := hperm.2.2
        rw [show d'.extract 0 us.length = d' by rw [← hds]; simp, show (List.finRange A.length).toArray.extract 0 us.length = (List.finRange A.length).toArray by rw [← hd]; simp only [Array.extract_size]] at this
        simpa using this
      have hA : (d'.toList.map fun k : Fin A.length => xat A k) = srtL A := by
        refine srtL_eq ?_ ?_
        · have := hpm.map fun k : Fin A.length => xat A k
          rwa [show (List.finRange A.length).map (fun k : Fin A.length => xat A k) = A from fin_map A [] rfl] at this
        · rw [List.pairwise_map, List.pairwise_iff_getElem]
          intro i j hi' hj' hij
          have := hso i j (by omega) hij (by rw [← hds]; simpa using hj')
          have := of_decide_eq_false this
          unfold cfR at this
          have e1 : d'[i]! = d'.toList[i] := by simp at hi'; simp [hi']
          have e2 : d'[j]! = d'.toList[j] := by simp at hj'; simp [hj']
          rw [e1, e2] at this
          have := cmpI_neg (xat A d'.toList[j]) (xat A d'.toList[i])
          exact decide_eq_true (by omega)
      have hp := putAll n os d' hds
      refine ⟨d'.toList.map fun k : Fin A.length => vat us k, rfl, by simp [hds, hl], ?_⟩
      rw [← hA]
      refine hp.perm ?_
      unfold own2
      refine List.Perm.cons _ (List.Perm.append_right _ ?_)
      rw [rows_fin hl]
      refine (hpm.map _).symm.trans (.of_eq ?_)
      unfold rowsI
      rw [List.zipWith_map, List.zipWith_self]
end Go.Proofs.Ytgflhgkcmfjkgaa
end
