/- Walks: MolsOfArray of both sides. -/
import Derived.Test.YtmkfafhgcnbcaaaStr4
import Derived.Test.YtmkfafhgcnbcaaaSq
namespace Go.Proofs.Ytmkfafhgcnbcaaa
set_option linter.unusedSimpArgs false
set_option linter.unusedVariables false
open Go.RowKit
attribute [local go_sem ↓] Go.wp_at_zero Go.wp_at_succ

def put2 (S : List (List Int)) (x y : Nat) (s : Int) : List (List Int) := S.set x ((xat S x).set y s)
def stepS (c : Nat) (S : List (List Int)) (r : List Int) : List (List Int) := put2 S (nth r 0).toNat (nth r 1).toNat (nth r c)
/-- the square of column c -/
def sqs (n c : Nat) (rows : List (List Int)) : List (List Int) := rows.foldl (stepS c) (sqF n fun _ _ => 0)
theorem sqs_snoc (n c : Nat) (rows : List (List Int)) (r : List Int) : sqs n c (rows ++ [r]) = stepS c (sqs n c rows) r := by unfold sqs; rw [List.foldl_append]; rfl
def IsSq (n : Nat) (S : List (List Int)) : Prop := S.length = n ∧ ∀ r ∈ S, r.length = n
theorem IsSq.at {n : Nat} {S : List (List Int)} (h : IsSq n S) {x : Nat} (hx : x < n) : (xat S x).length = n := h.2 _ (xat_mem (by rw [h.1]; exact hx))
theorem IsSq.step {n c : Nat} {S : List (List Int)} (h : IsSq n S) (r : List Int) : IsSq n (stepS c S r) := by
  unfold stepS put2
  refine ⟨by rw [List.length_set]; exact h.1, fun q hq => ?_⟩
  by_cases hx : (nth r 0).toNat < S.length
  · rcases List.mem_or_eq_of_mem_set hq with hq | rfl
    · exact h.2 q hq
    · rw [List.length_set]; exact h.2 _ (xat_mem hx)
  · rw [List.set_eq_of_length_le (by omega)] at hq; exact h.2 q hq
theorem sqF_sq (n : Nat) (f : Nat → Nat → Int) : IsSq n (sqF n f) := ⟨sqF_len n f, fun r hr => by obtain ⟨x, _, rfl⟩ := List.mem_map.1 hr; exact tab_len _ _⟩
theorem sqs_sq (n c : Nat) (rows : List (List Int)) : IsSq n (sqs n c rows) := by
  unfold sqs
  have : ∀ (l : List (List Int)) (S : List (List Int)), IsSq n S → IsSq n (l.foldl (stepS c) S) := by
    intro l
    induction l with
    | nil => intro S h; exact h
    | cons r l ih => intro S h; exact ih _ (h.step r)
  exact this _ _ (sqF_sq n _)
/-- the squares behind i rows, the first k of them behind one more -/
def molX (n m : Nat) (rows : List (List Int)) (i k : Nat) : List (List (List Int)) := (List.range m).map fun c => sqs n (c + 2) (if c < k then rows.take (i + 1) else rows.take i)
section
variable {n m i k : Nat} {rows : List (List Int)}
theorem molX_len : (molX n m rows i k).length = m := by simp [molX]
theorem molX_at {c : Nat} (h : c < m) : x3at (molX n m rows i k) c = sqs n (c + 2) (if c < k then rows.take (i + 1) else rows.take i) := by simp [molX, x3at, h]
theorem x3_ext {X Y : List (List (List Int))} (hl : X.length = Y.length) (h : ∀ c, c < X.length → x3at X c = x3at Y c) : X = Y := by
  apply List.ext_getElem hl
  intro c h1 h2
  have := h c h1
  rwa [x3at_eq h1, x3at_eq h2] at this
theorem molX_0 : molX n m rows 0 0 = List.replicate m (sqF n fun _ _ => 0) := by
  refine x3_ext (by rw [molX_len]; simp) fun c hc => ?_
  rw [molX_len] at hc
  rw [molX_at hc, if_neg (by omega)]
  simp [x3at, hc, sqs]
theorem molX_set (hk : k < m) (hi : i < rows.length) : (molX n m rows i k).set k (stepS (k + 2) (x3at (molX n m rows i k) k) (xat rows i)) = molX n m rows i (k + 1) := by
  refine x3_ext (by rw [List.length_set, molX_len, molX_len]) fun c hc => ?_
  rw [List.length_set, molX_len] at hc
  have e1 : x3at (molX n m rows i k) k = sqs n (k + 2) (rows.take i) := by rw [molX_at hk, if_neg (by omega)]
  rw [x3at_set (by rw [molX_len]; exact hk), e1, molX_at hc, molX_at hc]
  by_cases e : k = c
  · subst e; rw [if_pos rfl, if_pos (by omega), ← sqs_snoc, take_xat hi]
  · rw [if_neg e]
    by_cases h : c < k
    · rw [if_pos h, if_pos (by omega)]
    · rw [if_neg h, if_neg (by omega)]
theorem molX_end : molX n m rows i m = molX n m rows (i + 1) 0 := by
  refine x3_ext (by rw [molX_len, molX_len]) fun c hc => ?_
  rw [molX_len] at hc
  rw [molX_at hc, molX_at hc, if_pos hc, if_neg (by omega)]
theorem rep_snoc {α : Type} (k : Nat) (x : α) : List.replicate (k + 1) x = List.replicate k x ++ [x] := List.replicate_succ'
end
noncomputable def molsC (lv co : Int) (rows : List (List Int)) : Int := if okA lv co rows = true then (if co < 3 ∨ 10 < lv ∨ strN lv co.toNat rows 2 ≠ 1 then 6 else 0) else 1
noncomputable def molsM (lv co : Int) (rows : List (List Int)) : List (List (List Int)) := if molsC lv co rows = 0 then molX lv.toNat (co - 2).toNat rows rows.length 0 else []
/-- squares and a code -/
def MakesIIIC (w : World) (X : List (List (List Int))) (c : Int) (e : Ending) (w' : World) : Prop := ∃ v vs uss, e = .returned (.tuple #[v, .int .i64 c]) ∧ Fit3 vs uss X ∧ St w.heap.size w w' (own3 v vs uss X)
theorem fit_nil : Fit3 [] [] [] := ⟨rfl, rfl, fun k h => by simp at h⟩
theorem MakesIIIC.no {w w' : World} {L : List Ent} {X : List (List (List Int))} {c c' : Int} (hX : X = []) (hc : c = c') (h : St w.heap.size w w' L) : MakesIIIC w X c (.returned (.tuple #[.slice none 0 0, .int .i64 c'])) w' := by
  subst hX; subst hc
  exact ⟨_, [], [], rfl, fit_nil, h.out.newnil _⟩

set_option maxHeartbeats 16000000 in
set_option maxRecDepth 100000 in
theorem MolsOfArray_c (lv co : Int) (v : Value) (us : List Value) (rows : List (List Int)) (w : World) (hv : RII w v us rows) :
    Calls Try.prog 59 #[av lv co v] w (MakesIIIC w (molsM lv co rows) (molsC lv co rows)) := by
  have hS0 := (St.refl w).newboxF 51 #[.int .i64 lv, .int .i64 co, v]
  have HV := Lib.hid (ValidArray_c lv co v us rows _ (hS0.oldII hv))
  have a0 := hS0.bcell 0 rfl 0 rfl
  have a1 := hS0.bcell 0 rfl 1 rfl
  have a2 := hS0.bcell 0 rfl 2 rfl
  unfold av at HV ⊢
  cases hok : okA lv co rows
  · have HC := Lib.hid (show molsC lv co rows = 1 by rw [molsC, if_neg (by rw [hok]; simp)])
    have HM := Lib.hid (show molsM lv co rows = [] by rw [molsM, HC.out]; rfl)
    have Hok := Lib.hid hok; clear hok
    go_enter Try.func59, Try.ntmps59
    go_wp2_with fail
    refine HV.out.mono ?_
    rw [Hok.out]
    rintro e w1 ⟨rfl, h1⟩
    have hS1 := hS0.call0 h1
    go_wp2_with fail
    go_ret2
    exact MakesIIIC.no HM.out HC.out hS1
  · obtain ⟨hsh, hlen, hrow⟩ := okA_t hok
    obtain ⟨l2, l16, co1, co8⟩ := shapeB_t hsh
    have Hok := Lib.hid hok
    by_cases h3 : co < 3
    · have HC := Lib.hid (show molsC lv co rows = 6 by rw [molsC, if_pos hok, if_pos (.inl h3)])
      have HM := Lib.hid (show molsM lv co rows = [] by rw [molsM, HC.out]; rfl)
      clear hok hsh hrow
      go_enter Try.func59, Try.ntmps59
      go_wp2_with fail
      refine HV.out.mono ?_
      rw [Hok.out]
      rintro e w1 ⟨rfl, h1⟩
      have hS1 := hS0.call0 h1
      have b0 := hS1.bcell 0 rfl 0 rfl
      have b1 := hS1.bcell 0 rfl 1 rfl
      have b2 := hS1.bcell 0 rfl 2 rfl
      go_wp2_with fail
      go_ret2
      exact MakesIIIC.no HM.out HC.out hS1
    · by_cases h10 : 10 < lv
      · have HC := Lib.hid (show molsC lv co rows = 6 by rw [molsC, if_pos hok, if_pos (.inr (.inl h10))])
        have HM := Lib.hid (show molsM lv co rows = [] by rw [molsM, HC.out]; rfl)
        clear hok hsh hrow
        go_enter Try.func59, Try.ntmps59
        go_wp2_with fail
        refine HV.out.mono ?_
        rw [Hok.out]
        rintro e w1 ⟨rfl, h1⟩
        have hS1 := hS0.call0 h1
        have b0 := hS1.bcell 0 rfl 0 rfl
        have b1 := hS1.bcell 0 rfl 1 rfl
        have b2 := hS1.bcell 0 rfl 2 rfl
        go_wp2_with fail
        go_ret2
        exact MakesIIIC.no HM.out HC.out hS1
      · obtain ⟨C, rfl⟩ := Int.eq_ofNat_of_zero_le (show 0 ≤ co by omega)
        obtain ⟨n, rfl⟩ := Int.eq_ofNat_of_zero_le (show 0 ≤ lv by omega)
        have HI := fun W (h : RII W v us rows) => Lib.hid (strengthIndex_c n C v us rows 2 W h l2 l16 (by omega) (by omega) (by omega) hrow hlen)
        unfold av at HI
        by_cases hst : strN n C rows 2 = 1
        · have f1 := ne_f hst
          have HC := Lib.hid (show molsC n C rows = 0 by rw [molsC, if_pos hok, if_neg]; rintro (h | h | h); exact h3 h; exact h10 h; exact h (by simpa using hst))
          have HM := Lib.hid (show molsM n C rows = molX n (C - 2) rows rows.length 0 by
            rw [molsM, if_pos HC.out, Int.toNat_natCast, show ((C : Int) - 2).toNat = C - 2 by omega])
          obtain ⟨m, hmC⟩ : ∃ m, C = m + 2 := ⟨C - 2, by omega⟩
          have HM2 := Lib.hid (show molsM n C rows = molX n m rows rows.length 0 by rw [HM.out, show C - 2 = m by omega])
          have hm1 : (m : Int) ≤ (C : Int) - 2 := by omega
          have hm2 : (C : Int) - 2 ≤ (m : Int) := by omega
          have hm6 : m ≤ 6 := by omega
          have Hrl := Lib.hid (fun i (hi : i < rows.length) => show (xat rows i).length = m + 2 by have := (hrow _ (xat_mem hi)).1; omega)
          have Hre := Lib.hid (fun i j (hi : i < rows.length) (hj : j < m + 2) => show ∃ x : Nat, nth (xat rows i) j = x ∧ x < n by
            have h1 := hrow _ (xat_mem hi)
            have h2 := h1.2 _ (nth_mem (xs := xat rows i) (j := j) (by omega))
            exact ⟨(nth (xat rows i) j).toNat, by omega, by omega⟩)
          have hES := fun W => Lib.hid (emptySquare_c n W (by omega))
          have hlr := hv.len
          have xr := hv.ixe
          have Hv := Lib.hid hv
          clear hok hsh hrow hst hmC
          go_enter Try.func59, Try.ntmps59
          go_wp2_with fail
          refine HV.out.mono ?_
          rw [Hok.out]
          rintro e w1 ⟨rfl, h1⟩
          have hS1 := hS0.call0 h1
          have b0 := hS1.bcell 0 rfl 0 rfl
          have b1 := hS1.bcell 0 rfl 1 rfl
          have b2 := hS1.bcell 0 rfl 2 rfl
          go_wp2_with fail
          refine (HI _ (hS1.oldII hv)).out.mono ?_
          rintro e w2 ⟨rfl, h2⟩
          have hS2 := hS1.call0 h2
          have hS3 : St w.heap.size w w2 (own3 (.slice none 0 0) [] [] (List.replicate 0 (sqF n fun _ _ => 0)) ++ [box 51 w.heap.size [.int .i64 (n : Int), .int .i64 (C : Int), v]]) := (hS2.newnil 25).perm List.perm_append_comm
          have b0 := hS2.bcell 0 rfl 0 rfl
          have b1 := hS2.bcell 0 rfl 1 rfl
          have b2 := hS2.bcell 0 rfl 2 rfl
          clear hS0 hS1 hS2 h1 h2 HV HI hv a0 a1 a2
          go_wp2_with fail
          go_loopw [4, 28] (fun oo ii wr => ∃ (k : Nat) (vs : List Value) (uss : List (List Value)), k ≤ m ∧ ii = .int .i64 k ∧ Hid (Fit3 vs uss (List.replicate k (sqF n fun _ _ => 0))) ∧ St w.heap.size w wr (own3 oo vs uss (List.replicate k (sqF n fun _ _ => 0)) ++ [box 51 w.heap.size [.int .i64 (n : Int), .int .i64 (C : Int), v]])) (fun _ ii _ => m - (intOf ii).toNat)
          case atStart => exact ⟨0, [], [], by omega, rfl, fit_nil, hS3⟩
          case round =>
            obtain ⟨k, vs, uss, hk, rfl, hfit, hS⟩ := hrel
            have hB := hS.perm List.perm_append_comm
            have b0 := hB.bcell 0 rfl 0 rfl
            have b1 := hB.bcell 0 rfl 1 rfl
            have b2 := hB.bcell 0 rfl 2 rfl
            by_cases hlt : k < m
            · have Hvl := Lib.hid (show vs.length < 4294967296 by have := hfit.out.1; rw [List.length_replicate] at this; omega)
              clear hB
              go_wp2_with fail
              refine (hES _).out.mono ?_
              rintro e w4 ⟨v4, u4', rfl, hl4, h4⟩
              obtain ⟨a4, c4, he4⟩ := (h4.rd 0 rfl).sl.sh
              subst he4
              have hS4 := hS.call h4
              have Hl4 := Lib.hid hl4
              clear hl4 h4
              go_wp2_with (at_builtin; refine appIII hS4 0 rfl Hvl.out rfl _ _ rfl rfl _ rfl rfl ?_; intro v5 w5 hS5)
              go_roundw
              case rel =>
                refine ⟨k + 1, vs ++ [.slice a4 u4'.length c4], uss ++ [u4'], by omega, by go_num, by unfold Hid; rw [rep_snoc]; exact hfit.out.snoc _ Hl4.out, ?_⟩
                rw [rep_snoc, own3, rows3_app _ _ _ hfit.out.1 hfit.out.2.1]
                simp only [own3, List.cons_append, List.set_cons_zero] at hS5
                exact hS5.perm (by (try simp only [own2, List.cons_append, List.nil_append, List.append_nil]); classical exact List.perm_iff_count.2 (fun a => by simp only [List.cons_append, List.nil_append, List.append_nil, List.count_append, List.count_cons, List.count_nil] <;> omega))
              case measure => simp [intOf]; omega
            · have hke : k = m := by omega
              rw [hke] at hfit hS
              rw [← molX_0 (rows := rows)] at hfit hS
              have Hf3 : Hid (∀ i k, Fit3 vs uss (molX n m rows i k)) := Lib.hid (fun i k => ⟨by rw [molX_len]; have := hfit.out.1; rwa [molX_len] at this, by rw [molX_len]; have := hfit.out.2.1; rwa [molX_len] at this, fun c hc => by
                rw [molX_len] at hc
                have := hfit.out.2.2 c (by rw [molX_len]; exact hc)
                rw [this, molX_at hc, molX_at hc, (sqs_sq _ _ _).1, (sqs_sq _ _ _).1]⟩)
              clear hke hB
              go_wp2_with fail
              go_loopw [6, 7, 8, 40, 47] (fun _ _ _ ii _ wx => ∃ i : Nat, i ≤ rows.length ∧ ii = .int .i64 i ∧ St w.heap.size w wx (own3 u4 vs uss (molX n m rows i 0) ++ [box 51 w.heap.size [.int .i64 (n : Int), .int .i64 (C : Int), v]])) (fun _ _ _ ii _ _ => rows.length - (intOf ii).toNat)
              case atStart => exact ⟨0, by omega, rfl, hS⟩
              case round =>
                obtain ⟨i, hi, rfl, hS⟩ := hrel
                by_cases hil : i < rows.length
                · have ci := (hS.oldII Hv.out).cell i hil
                  have xi := xr (i : Int) i rfl hil
                  have gi := (hS.oldII Hv.out).row i hil
                  have hln := Hrl.out i hil
                  have hsl : ∀ W, (Instr.slice 22 (vat us i) (some (.int .i64 2)) none none).run Try.prog W = .ok (rsl (vat us i) 2 (xat rows i).length) W := rsl_lo gi 2 (by omega)
                  have hrs := rsl_rd (Hv.out.row i hil) (lo := 2) (hi := (xat rows i).length) (by omega) (Nat.le_refl _)
                  rw [List.take_length] at hrs
                  have hlr2 := hrs.len
                  rw [show ((xat rows i).drop 2).length = m by rw [List.length_drop]; omega] at hlr2
                  have Hrs := Lib.hid hrs
                  have Hvr := Lib.hid (Hv.out.row i hil)
                  have Hln := Lib.hid hln
                  obtain ⟨r0, hr0, hr0n⟩ := Hre.out i 0 hil (by omega)
                  obtain ⟨r1, hr1, hr1n⟩ := Hre.out i 1 hil (by omega)
                  have Hr0 := Lib.hid hr0
                  have Hr1 := Lib.hid hr1
                  generalize hvr : vat us i = vr at ci gi hsl hlr2 Hrs Hvr
                  clear gi hln hrs hr0 hr1 hvr
                  go_wp2_with fail
                  go_loopw [7, 8, 47] (fun _ _ kk wz => ∃ k : Nat, k ≤ m ∧ kk = .int .i64 k ∧ St w.heap.size w wz (own3 u4 vs uss (molX n m rows i k) ++ [box 51 w.heap.size [.int .i64 (n : Int), .int .i64 (C : Int), v]])) (fun _ _ kk _ => m - (intOf kk).toNat)
                  case atStart => exact ⟨0, by omega, rfl, hS⟩
                  case round =>
                    obtain ⟨k, hk, rfl, hS⟩ := hrel
                    by_cases hkm : k < m
                    · have hfu := Hf3.out i k
                      have hkx : k < (molX n m rows i k).length := by rw [molX_len]; exact hkm
                      have hR3 := hS.riii hfu
                      have ck := hR3.cell k hkx
                      have xk := hR3.ixe (k : Int) k rfl hkx
                      have hP := hS.perm (own3_out hfu.1 hfu.2.1 hkx)
                      have hsq : IsSq n (x3at (molX n m rows i k) k) := by rw [molX_at hkm]; exact sqs_sq _ _ _
                      have Hin := own3_in (v := u4) (L2 := [box 51 w.heap.size [.int .i64 (n : Int), .int .i64 (C : Int), v]]) hfu.1 hfu.2.1 hkx (stepS (k + 2) (x3at (molX n m rows i k) k) (xat rows i))
                      rw [molX_set hkm hil] at Hin
                      rw [show stepS (k + 2) (x3at (molX n m rows i k) k) (xat rows i) = (x3at (molX n m rows i k) k).set r0 ((xat (x3at (molX n m rows i k) k) r0).set r1 (nth (xat rows i) (k + 2))) by unfold stepS put2; rw [Hr0.out, Hr1.out, Int.toNat_natCast, Int.toNat_natCast]] at Hin
                      have HIn := Lib.hid Hin
                      have hl := hfu.2.2 k hkx
                      have hr0l : r0 < (x3at (molX n m rows i k) k).length := by rw [hsq.1]; exact hr0n
                      have hr1l : r1 < (xat (x3at (molX n m rows i k) k) r0).length := by rw [hsq.at hr0n]; exact hr1n
                      have hat := hP.at_row hl hr0l
                      have z0 := (rii2 hP hl).cell r0 hr0l
                      have x0 := (rii2 hP hl).ixe (r0 : Int) r0 rfl hr0l
                      have x1 := (hP.rdI (r0 + 1) hat).ixe (r1 : Int) r1 rfl hr1l
                      have co1 := (hP.rdI (r0 + 1) hat).cell r1 hr1l
                      have u1 := hP.unfrozen (r0 + 1) hat (j := r1) (by rw [iv_len]; exact hr1l)
                      have y0 := (hS.oldI Hvr.out).cell 0 (by rw [Hln.out]; omega)
                      have y1 := (hS.oldI Hvr.out).cell 1 (by rw [Hln.out]; omega)
                      rw [Hr0.out] at y0
                      rw [Hr1.out] at y1
                      have xy0 := Hvr.out.ixe 0 0 rfl (by rw [Hln.out]; omega)
                      have xy1 := Hvr.out.ixe 1 1 rfl (by rw [Hln.out]; omega)
                      have hkd : k < ((xat rows i).drop 2).length := by rw [List.length_drop, Hln.out]; omega
                      have ys := (hS.oldI Hrs.out).cell k hkd
                      rw [show nth ((xat rows i).drop 2) k = nth (xat rows i) (k + 2) by simp [nth, Nat.add_comm]] at ys
                      have xs' := Hrs.out.ixe (k : Int) k rfl hkd
                      have HP := Lib.hid hP
                      have Hl := Lib.hid hl
                      have Hat := Lib.hid hat
                      have Hr0l := Lib.hid hr0l
                      have Hr1l := Lib.hid hr1l
                      clear hfu hkx hR3 hP hsq Hin hl hr0l hr1l hat hkd
                      go_wp2_with fail
                      refine regionG (fun w' => w'.cell? (el u4 k) = some (vat vs k) ∧ w'.cell? (el vr 0) = some (.int .i64 r0) ∧ w'.cell? (el (vat vs k) r0) = some (vat (vsat uss k) r0) ∧ w'.cell? (el vr 1) = some (.int .i64 r1)) 14 (by kernel_rfl) ⟨cell_dr ck, cell_dr y0, cell_dr z0, cell_dr y1⟩ (fun hHeld => ?_)
                      refine takeP (i := 0) (v := ?_) rfl (by kernel_rfl) (fun _ _ _ h => h) (by rfl) ?_ (by assumption) ?_
                      case refine_2 => (intro w'; go_simp; first | done | with_reducible rfl)
                      try simp only [Act.put, List.setIfInBounds_toArray, List.set_cons_zero, List.set_cons_succ]
                      refine takeP (i := 1) (v := ?_) rfl (by kernel_rfl) (fun _ _ _ h => h) (by rfl) ?_ (by assumption) ?_
                      case refine_2 => (intro w'; go_simp; first | done | with_reducible rfl)
                      try simp only [Act.put, List.setIfInBounds_toArray, List.set_cons_zero, List.set_cons_succ]
                      refine takeP (i := 2) (v := ?_) rfl (by kernel_rfl) (fun _ _ _ h => h) (by rfl) ?_ (by assumption) ?_
                      case refine_2 => (intro w'; go_simp; first | done | with_reducible rfl)
                      try simp only [Act.put, List.setIfInBounds_toArray, List.set_cons_zero, List.set_cons_succ]
                      refine takeH (i := 3) [7, 8, 13] (v := ?_) rfl (by kernel_rfl) (fun _ _ _ h => h) (by rfl) ?_ (by assumption) ?_
                      case refine_2 => (intro w' hSw; (try dsimp only at hSw); go_simp; first | done | with_reducible rfl)
                      try simp only [Act.put, List.setIfInBounds_toArray, List.set_cons_zero, List.set_cons_succ]
                      refine takeP (i := 4) (v := ?_) rfl (by kernel_rfl) (fun _ _ _ h => h) (by rfl) ?_ (by assumption) ?_
                      case refine_2 => (intro w'; go_simp; first | done | with_reducible rfl)
                      try simp only [Act.put, List.setIfInBounds_toArray, List.set_cons_zero, List.set_cons_succ]
                      refine takeP (i := 5) (v := ?_) rfl (by kernel_rfl) (fun _ _ _ h => h) (by rfl) ?_ (by assumption) ?_
                      case refine_2 => (intro w'; go_simp; first | done | with_reducible rfl)
                      try simp only [Act.put, List.setIfInBounds_toArray, List.set_cons_zero, List.set_cons_succ]
                      refine takeH (i := 6) [7, 8, 13] (v := ?_) rfl (by kernel_rfl) (fun _ _ _ h => h) (by rfl) ?_ (by assumption) ?_
                      case refine_2 => (intro w' hSw; (try dsimp only at hSw); go_simp; first | done | with_reducible rfl)
                      try simp only [Act.put, List.setIfInBounds_toArray, List.set_cons_zero, List.set_cons_succ]
                      refine takeP (i := 7) (v := ?_) rfl (by kernel_rfl) (fun _ _ _ h => h) (by rfl) ?_ (by assumption) ?_
                      case refine_2 => (intro w'; go_simp; first | done | with_reducible rfl)
                      try simp only [Act.put, List.setIfInBounds_toArray, List.set_cons_zero, List.set_cons_succ]
                      refine takeH (i := 8) [13] (v := ?_) rfl (by kernel_rfl) (fun _ _ _ h => h) (by rfl) ?_ (by assumption) ?_
                      case refine_2 => (intro w' hSw; (try dsimp only at hSw); go_simp; first | done | with_reducible rfl)
                      try simp only [Act.put, List.setIfInBounds_toArray, List.set_cons_zero, List.set_cons_succ]
                      refine takeP (i := 9) (v := ?_) rfl (by kernel_rfl) (fun _ _ _ h => h) (by rfl) ?_ (by assumption) ?_
                      case refine_2 => (intro w'; go_simp; first | done | with_reducible rfl)
                      try simp only [Act.put, List.setIfInBounds_toArray, List.set_cons_zero, List.set_cons_succ]
                      refine takeP (i := 10) (v := ?_) rfl (by kernel_rfl) (fun _ _ _ h => h) (by rfl) ?_ (by assumption) ?_
                      case refine_2 => (intro w'; go_simp; first | done | with_reducible rfl)
                      try simp only [Act.put, List.setIfInBounds_toArray, List.set_cons_zero, List.set_cons_succ]
                      refine takeH (i := 11) [13] (v := ?_) rfl (by kernel_rfl) (fun _ _ _ h => h) (by rfl) ?_ (by assumption) ?_
                      case refine_2 => (intro w' hSw; (try dsimp only at hSw); go_simp; first | done | with_reducible rfl)
                      try simp only [Act.put, List.setIfInBounds_toArray, List.set_cons_zero, List.set_cons_succ]
                      refine takeP (i := 12) (v := ?_) rfl (by kernel_rfl) (fun _ _ _ h => h) (by rfl) ?_ (by assumption) ?_
                      case refine_2 => (intro w'; go_simp; first | done | with_reducible rfl)
                      try simp only [Act.put, List.setIfInBounds_toArray, List.set_cons_zero, List.set_cons_succ]
                      refine takeP (i := 13) (v := ?_) rfl (by kernel_rfl) (fun _ _ _ h => h) (by rfl) ?_ (by assumption) ?_
                      case refine_2 => (intro w'; go_simp; first | done | with_reducible rfl)
                      try simp only [Act.put, List.setIfInBounds_toArray, List.set_cons_zero, List.set_cons_succ]
                      refine readyG (rs := [14]) (by kernel_rfl) (by simp) ?_
                      refine AllG.last rfl (by kernel_rfl) (fun K hK => ?_) AllG.nil
                      go_simp
                      refine hK.out _ _ ?_
                      clear hK K
                      try simp only [Act.put, List.setIfInBounds_toArray, List.set_cons_zero, List.set_cons_succ]
                      refine doneG (by kernel_rfl) ?_ _
                      refine NoPanic.normal ?_
                      have hS9 := HP.out.drew.store (r0 + 1) Hat.out (j := r1) (by rw [iv_len]; exact Hr1l.out) (.int .i64 (nth (xat rows i) (k + 2)))
                      rw [iv_set, own2_set Hl.out Hr0l.out] at hS9
                      have hS10 := hS9.perm HIn.out
                      clear hS9
                      go_wp2_with fail
                      go_roundw
                      case rel => exact ⟨k + 1, by omega, by go_num, hS10⟩
                      case measure => simp [intOf]; omega
                    · have hke : k = m := by omega
                      rw [hke, molX_end] at hS
                      clear hke
                      go_wp2_with fail
                      go_roundw
                      case rel => exact ⟨i + 1, by omega, by go_num, hS⟩
                      case measure => simp [intOf]; omega
                · have hie : i = rows.length := by omega
                  rw [hie] at hS
                  clear hie
                  go_wp2_with fail
                  go_ret2
                  rw [HM2.out, HC.out]
                  exact ⟨u4, vs, uss, rfl, Hf3.out _ _, hS.sub (List.sublist_append_left _ _)⟩
        · have f1 := ne_t hst
          have HC := Lib.hid (show molsC n C rows = 6 by rw [molsC, if_pos hok, if_pos (.inr (.inr (by simpa using hst)))])
          have HM := Lib.hid (show molsM n C rows = [] by rw [molsM, HC.out]; rfl)
          clear hok hsh hrow hst
          go_enter Try.func59, Try.ntmps59
          go_wp2_with fail
          refine HV.out.mono ?_
          rw [Hok.out]
          rintro e w1 ⟨rfl, h1⟩
          have hS1 := hS0.call0 h1
          have b0 := hS1.bcell 0 rfl 0 rfl
          have b1 := hS1.bcell 0 rfl 1 rfl
          have b2 := hS1.bcell 0 rfl 2 rfl
          go_wp2_with fail
          refine (HI _ (hS1.oldII hv)).out.mono ?_
          rintro e w2 ⟨rfl, h2⟩
          have hS2 := hS1.call0 h2
          go_wp2_with fail
          go_ret2
          exact MakesIIIC.no HM.out HC.out hS2
end Go.Proofs.Ytmkfafhgcnbcaaa
