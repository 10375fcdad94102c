/- The texts of this claim, run 11: Mol PArr Eqs LArr Prf PFnArrays. -/
import Derived.Test.YtejncephbafcdaaK3
import Derived.Test.YtejncephbafcdaaK4
import Derived.Test.YtejncephbafcdaaK5
import Derived.Test.YtejncephbafcdaaK6
import Derived.Test.YtejncephbafcdaaK9
import Derived.Test.YtejncephbafcdaaK10
import Derived.ProofKit
import Derived.OpenShut
import Derived.ShutString
import Derived.ChangeOld
import Derived.Below
section
/- Walks: MolsOfArray of both sides. -/
namespace Go.Proofs.Ytejncephbafcdaa
set_option linter.unusedSimpArgs false
set_option linter.unusedVariables false
open Go.RowKit
attribute [local go_sem ↓] Go.wp_at_zero Go.wp_at_succ

def put2 (S : List (List Int)) (x y : Nat) (s : Int) : List (List Int) := S.set x ((xat S x).set y s)
def stepS (c : Nat) (S : List (List Int)) (r : List Int) : List (List Int) := put2 S (nth r 0).toNat (nth r 1).toNat (nth r c)
/-- the square of column c -/
def sqs (n c : Nat) (rows : List (List Int)) : List (List Int) := rows.foldl (stepS c) (sqF n fun _ _ => 0)
theorem sqs_snoc (n c : Nat) (rows : List (List Int)) (r : List Int) : sqs n c (rows ++ [r]) = stepS c (sqs n c rows) r := by unfold sqs; rw [List.foldl_append]; rfl
def IsSq (n : Nat) (S : List (List Int)) : Prop := S.length = n ∧ ∀ r ∈ S, r.length = n
theorem IsSq.at {n : Nat} {S : List (List Int)} (h : IsSq n S) {x : Nat} (hx : x < n) : (xat S x).length = n := h.2 _ (xat_mem (by rw [h.1]; exact hx))
theorem IsSq.step {n c : Nat} {S : List (List Int)} (h : IsSq n S) (r : List Int) : IsSq n (stepS c S r) := by
  unfold stepS put2
  refine ⟨by rw [List.length_set]; exact h.1, fun q hq => ?_⟩
  by_cases hx : (nth r 0).toNat < S.length
  · rcases List.mem_or_eq_of_mem_set hq with hq | rfl
    · exact h.2 q hq
    · rw [List.length_set]; exact h.2 _ (xat_mem hx)
  · rw [List.set_eq_of_length_le (by omega)] at hq; exact h.2 q hq
theorem sqF_sq (n : Nat) (f : Nat → Nat → Int) : IsSq n (sqF n f) := ⟨sqF_len n f, fun r hr => by obtain ⟨x, _, rfl⟩ := List.mem_map.1 hr; exact tab_len _ _⟩
theorem sqs_sq (n c : Nat) (rows : List (List Int)) : IsSq n (sqs n c rows) := by
  unfold sqs
  have : ∀ (l : List (List Int)) (S : List (List Int)), IsSq n S → IsSq n (l.foldl (stepS c) S) := by
    intro l
    induction l with
    | nil => intro S h; exact h
    | cons r l ih => intro S h; exact ih _ (h.step r)
  exact this _ _ (sqF_sq n _)
/-- the squares behind i rows, the first k of them behind one more -/
def molX (n m : Nat) (rows : List (List Int)) (i k : Nat) : List (List (List Int)) := (List.range m).map fun c => sqs n (c + 2) (if c < k then rows.take (i + 1) else rows.take i)
section
variable {n m i k : Nat} {rows : List (List Int)}
theorem molX_len : (molX n m rows i k).length = m := by simp [molX]
theorem molX_at {c : Nat} (h : c < m) : x3at (molX n m rows i k) c = sqs n (c + 2) (if c < k then rows.take (i + 1) else rows.take i) := by simp [molX, x3at, h]
theorem x3_ext {X Y : List (List (List Int))} (hl : X.length = Y.length) (h : ∀ c, c < X.length → x3at X c = x3at Y c) : X = Y := by
  apply List.ext_getElem hl
  intro c h1 h2
  have := h c h1
  rwa [x3at_eq h1, x3at_eq h2] at this
theorem molX_0 : molX n m rows 0 0 = List.replicate m (sqF n fun _ _ => 0) := by
  refine x3_ext (by rw [molX_len]; simp) fun c hc => ?_
  rw [molX_len] at hc
  rw [molX_at hc, if_neg (by omega)]
  simp [x3at, hc, sqs]
theorem molX_set (hk : k < m) (hi : i < rows.length) : (molX n m rows i k).set k (stepS (k + 2) (x3at (molX n m rows i k) k) (xat rows i)) = molX n m rows i (k + 1) := by
  refine x3_ext (by rw [List.length_set, molX_len, molX_len]) fun c hc => ?_
  rw [List.length_set, molX_len] at hc
  have e1 : x3at (molX n m rows i k) k = sqs n (k + 2) (rows.take i) := by rw [molX_at hk, if_neg (by omega)]
  rw [x3at_set (by rw [molX_len]; exact hk), e1, molX_at hc, molX_at hc]
  by_cases e : k = c
  · subst e; rw [if_pos rfl, if_pos (by omega), ← sqs_snoc, take_xat hi]
  · rw [if_neg e]
    by_cases h : c < k
    · rw [if_pos h, if_pos (by omega)]
    · rw [if_neg h, if_neg (by omega)]
theorem molX_end : molX n m rows i m = molX n m rows (i + 1) 0 := by
  refine x3_ext (by rw [molX_len, molX_len]) fun c hc => ?_
  rw [molX_len] at hc
  rw [molX_at hc, molX_at hc, if_pos hc, if_neg (by omega)]
theorem rep_snoc {α : Type} (k : Nat) (x : α) : List.replicate (k + 1) x = List.replicate k x ++ [x] := List.replicate_succ'
end
noncomputable def molsC (lv co : Int) (rows : List (List Int)) : Int := if okA lv co rows = true then (if co < 3 ∨ 10 < lv ∨ strN lv co.toNat rows 2 ≠ 1 then 6 else 0) else 1
noncomputable def molsM (lv co : Int) (rows : List (List Int)) : List (List (List Int)) := if molsC lv co rows = 0 then molX lv.toNat (co - 2).toNat rows rows.length 0 else []
/-- squares and a code -/
def MakesIIIC (w : World) (X : List (List (List Int))) (c : Int) (e : Ending) (w' : World) : Prop := ∃ v vs uss, e = .returned (.tuple #[v, .int .i64 c]) ∧ Fit3 vs uss X ∧ St w.heap.size w w' (own3 v vs uss X)
theorem fit_nil : Fit3 [] [] [] := ⟨rfl, rfl, fun k h => by simp at h⟩
theorem MakesIIIC.no {w w' : World} {L : List Ent} {X : List (List (List Int))} {c c' : Int} (hX : X = []) (hc : c = c') (h : St w.heap.size w w' L) : MakesIIIC w X c (.returned (.tuple #[.slice none 0 0, .int .i64 c'])) w' := by
  subst hX; subst hc
  exact ⟨_, [], [], rfl, fit_nil, h.out.newnil _⟩

set_option maxHeartbeats 16000000 in
set_option maxRecDepth 100000 in
theorem MolsOfArray_c (lv co : Int) (v : Value) (us : List Value) (rows : List (List Int)) (w : World) (hv : RII w v us rows) :
    Calls Try.prog 12 #[av lv co v] w (MakesIIIC w (molsM lv co rows) (molsC lv co rows)) := by
  have hS0 := (St.refl w).newboxF 28 #[.int .i64 lv, .int .i64 co, v]
  have HV := Lib.hid (ValidArray_c lv co v us rows _ (hS0.oldII hv))
  have a0 := hS0.bcell 0 rfl 0 rfl
  have a1 := hS0.bcell 0 rfl 1 rfl
  have a2 := hS0.bcell 0 rfl 2 rfl
  unfold av at HV ⊢
  cases hok : okA lv co rows
  · have HC := Lib.hid (show molsC lv co rows = 1 by rw [molsC, if_neg (by rw [hok]; simp)])
    have HM := Lib.hid (show molsM lv co rows = [] by rw [molsM, HC.out]; rfl)
    have Hok := Lib.hid hok; clear hok
    go_enter Try.func12, Try.ntmps12
    go_wp2_with fail
    refine HV.out.mono ?_
    rw [Hok.out]
    rintro e w1 ⟨rfl, h1⟩
    have hS1 := hS0.call0 h1
    go_wp2_with fail
    go_ret2
    exact MakesIIIC.no HM.out HC.out hS1
  · obtain ⟨hsh, hlen, hrow⟩ := okA_t hok
    obtain ⟨l2, l16, co1, co8⟩ := shapeB_t hsh
    have Hok := Lib.hid hok
    by_cases h3 : co < 3
    · have HC := Lib.hid (show molsC lv co rows = 6 by rw [molsC, if_pos hok, if_pos (.inl h3)])
      have HM := Lib.hid (show molsM lv co rows = [] by rw [molsM, HC.out]; rfl)
      clear hok hsh hrow
      go_enter Try.func12, Try.ntmps12
      go_wp2_with fail
      refine HV.out.mono ?_
      rw [Hok.out]
      rintro e w1 ⟨rfl, h1⟩
      have hS1 := hS0.call0 h1
      have b0 := hS1.bcell 0 rfl 0 rfl
      have b1 := hS1.bcell 0 rfl 1 rfl
      have b2 := hS1.bcell 0 rfl 2 rfl
      go_wp2_with fail
      go_ret2
      exact MakesIIIC.no HM.out HC.out hS1
    · by_cases h10 : 10 < lv
      · have HC := Lib.hid (show molsC lv co rows = 6 by rw [molsC, if_pos hok, if_pos (.inr (.inl h10))])
        have HM := Lib.hid (show molsM lv co rows = [] by rw [molsM, HC.out]; rfl)
        clear hok hsh hrow
        go_enter Try.func12, Try.ntmps12
        go_wp2_with fail
        refine HV.out.mono ?_
        rw [Hok.out]
        rintro e w1 ⟨rfl, h1⟩
        have hS1 := hS0.call0 h1
        have b0 := hS1.bcell 0 rfl 0 rfl
        have b1 := hS1.bcell 0 rfl 1 rfl
        have b2 := hS1.bcell 0 rfl 2 rfl
        go_wp2_with fail
        go_ret2
        exact MakesIIIC.no HM.out HC.out hS1
      · obtain ⟨C, rfl⟩ := Int.eq_ofNat_of_zero_le (show 0 ≤ co by omega)
        obtain ⟨n, rfl⟩ := Int.eq_ofNat_of_zero_le (show 0 ≤ lv by omega)
        have HI := fun W (h : RII W v us rows) => Lib.hid (strengthIndex_c n C v us rows 2 W h l2 l16 (by omega) (by omega) (by omega) hrow hlen)
        unfold av at HI
        by_cases hst : strN n C rows 2 = 1
        · have f1 := ne_f hst
          have HC := Lib.hid (show molsC n C rows = 0 by rw [molsC, if_pos hok, if_neg]; rintro (h | h | h); exact h3 h; exact h10 h; exact h (by simpa using hst))
          have HM := Lib.hid (show molsM n C rows = molX n (C - 2) rows rows.length 0 by
            rw [molsM, if_pos HC.out, Int.toNat_natCast, show ((C : Int) - 2).toNat = C - 2 by omega])
          obtain ⟨m, hmC⟩ : ∃ m, C = m + 2 := ⟨C - 2, by omega⟩
          have HM2 := Lib.hid (show molsM n C rows = molX n m rows rows.length 0 by rw [HM.out, show C - 2 = m by omega])
          have hm1 : (m : Int) ≤ (C : Int) - 2 := by omega
          have hm2 : (C : Int) - 2 ≤ (m : Int) := by omega
          have hm6 : m ≤ 6 := by omega
          have Hrl := Lib.hid (fun i (hi : i < rows.length) => show (xat rows i).length = m + 2 by have := (hrow _ (xat_mem hi)).1; omega)
          have Hre := Lib.hid (fun i j (hi : i < rows.length) (hj : j < m + 2) => show ∃ x : Nat, nth (xat rows i) j = x ∧ x < n by
            have h1 := hrow _ (xat_mem hi)
            have h2 := h1.2 _ (nth_mem (xs := xat rows i) (j := j) (by omega))
            exact ⟨(nth (xat rows i) j).toNat, by omega, by omega⟩)
          have hES := fun W => Lib.hid (emptySquare_c n W (by omega))
          have hlr := hv.len
          have xr := hv.ixe
          have Hv := Lib.hid hv
          clear hok hsh hrow hst hmC
          go_enter Try.func12, Try.ntmps12
          go_wp2_with fail
          refine HV.out.mono ?_
          rw [Hok.out]
          rintro e w1 ⟨rfl, h1⟩
          have hS1 := hS0.call0 h1
          have b0 := hS1.bcell 0 rfl 0 rfl
          have b1 := hS1.bcell 0 rfl 1 rfl
          have b2 := hS1.bcell 0 rfl 2 rfl
          go_wp2_with fail
          refine (HI _ (hS1.oldII hv)).out.mono ?_
          rintro e w2 ⟨rfl, h2⟩
          have hS2 := hS1.call0 h2
          have hS3 : St w.heap.size w w2 (own3 (.slice none 0 0) [] [] (List.replicate 0 (sqF n fun _ _ => 0)) ++ [box 28 w.heap.size [.int .i64 (n : Int), .int .i64 (C : Int), v]]) := (hS2.newnil 26).perm List.perm_append_comm
          have b0 := hS2.bcell 0 rfl 0 rfl
          have b1 := hS2.bcell 0 rfl 1 rfl
          have b2 := hS2.bcell 0 rfl 2 rfl
          clear hS0 hS1 hS2 h1 h2 HV HI hv a0 a1 a2
          go_wp2_with fail
          go_loopw [4, 28] (fun oo ii wr => ∃ (k : Nat) (vs : List Value) (uss : List (List Value)), k ≤ m ∧ ii = .int .i64 k ∧ Hid (Fit3 vs uss (List.replicate k (sqF n fun _ _ => 0))) ∧ St w.heap.size w wr (own3 oo vs uss (List.replicate k (sqF n fun _ _ => 0)) ++ [box 28 w.heap.size [.int .i64 (n : Int), .int .i64 (C : Int), v]])) (fun _ ii _ => m - (intOf ii).toNat)
          case atStart => exact ⟨0, [], [], by omega, rfl, fit_nil, hS3⟩
          case round =>
            obtain ⟨k, vs, uss, hk, rfl, hfit, hS⟩ := hrel
            have hB := hS.perm List.perm_append_comm
            have b0 := hB.bcell 0 rfl 0 rfl
            have b1 := hB.bcell 0 rfl 1 rfl
            have b2 := hB.bcell 0 rfl 2 rfl
            by_cases hlt : k < m
            · have Hvl := Lib.hid (show vs.length < 4294967296 by have := hfit.out.1; rw [List.length_replicate] at this; omega)
              clear hB
              go_wp2_with fail
              refine (hES _).out.mono ?_
              rintro e w4 ⟨v4, u4', rfl, hl4, h4⟩
              obtain ⟨a4, c4, he4⟩ := (h4.rd 0 rfl).sl.sh
              subst he4
              have hS4 := hS.call h4
              have Hl4 := Lib.hid hl4
              clear hl4 h4
              go_wp2_with (at_builtin; refine appIII hS4 0 rfl Hvl.out rfl _ _ rfl rfl _ rfl rfl ?_; intro v5 w5 hS5)
              go_roundw
              case rel =>
                refine ⟨k + 1, vs ++ [.slice a4 u4'.length c4], uss ++ [u4'], by omega, by go_num, by unfold Hid; rw [rep_snoc]; exact hfit.out.snoc _ Hl4.out, ?_⟩
                rw [rep_snoc, own3, rows3_app _ _ _ hfit.out.1 hfit.out.2.1]
                simp only [own3, List.cons_append, List.set_cons_zero] at hS5
                exact hS5.perm (by (try simp only [own2, List.cons_append, List.nil_append, List.append_nil]); classical exact List.perm_iff_count.2 (fun a => by simp only [List.cons_append, List.nil_append, List.append_nil, List.count_append, List.count_cons, List.count_nil] <;> omega))
              case measure => simp [intOf]; omega
            · have hke : k = m := by omega
              rw [hke] at hfit hS
              rw [← molX_0 (rows := rows)] at hfit hS
              have Hf3 : Hid (∀ i k, Fit3 vs uss (molX n m rows i k)) := Lib.hid (fun i k => ⟨by rw [molX_len]; have := hfit.out.1; rwa [molX_len] at this, by rw [molX_len]; have := hfit.out.2.1; rwa [molX_len] at this, fun c hc => by
                rw [molX_len] at hc
                have := hfit.out.2.2 c (by rw [molX_len]; exact hc)
                rw [this, molX_at hc, molX_at hc, (sqs_sq _ _ _).1, (sqs_sq _ _ _).1]⟩)
              clear hke hB
              go_wp2_with fail
              go_loopw [6, 7, 8, 40, 47] (fun _ _ _ ii _ wx => ∃ i : Nat, i ≤ rows.length ∧ ii = .int .i64 i ∧ St w.heap.size w wx (own3 u4 vs uss (molX n m rows i 0) ++ [box 28 w.heap.size [.int .i64 (n : Int), .int .i64 (C : Int), v]])) (fun _ _ _ ii _ _ => rows.length - (intOf ii).toNat)
              case atStart => exact ⟨0, by omega, rfl, hS⟩
              case round =>
                obtain ⟨i, hi, rfl, hS⟩ := hrel
                by_cases hil : i < rows.length
                · have ci := (hS.oldII Hv.out).cell i hil
                  have xi := xr (i : Int) i rfl hil
                  have gi := (hS.oldII Hv.out).row i hil
                  have hln := Hrl.out i hil
                  have hsl : ∀ W, (Instr.slice 52 (vat us i) (some (.int .i64 2)) none none).run Try.prog W = .ok (rsl (vat us i) 2 (xat rows i).length) W := rsl_lo gi 2 (by omega)
                  have hrs := rsl_rd (Hv.out.row i hil) (lo := 2) (hi := (xat rows i).length) (by omega) (Nat.le_refl _)
                  rw [List.take_length] at hrs
                  have hlr2 := hrs.len
                  rw [show ((xat rows i).drop 2).length = m by rw [List.length_drop]; omega] at hlr2
                  have Hrs := Lib.hid hrs
                  have Hvr := Lib.hid (Hv.out.row i hil)
                  have Hln := Lib.hid hln
                  obtain ⟨r0, hr0, hr0n⟩ := Hre.out i 0 hil (by omega)
                  obtain ⟨r1, hr1, hr1n⟩ := Hre.out i 1 hil (by omega)
                  have Hr0 := Lib.hid hr0
                  have Hr1 := Lib.hid hr1
                  generalize hvr : vat us i = vr at ci gi hsl hlr2 Hrs Hvr
                  clear gi hln hrs hr0 hr1 hvr
                  go_wp2_with fail
                  go_loopw [7, 8, 47] (fun _ _ kk wz => ∃ k : Nat, k ≤ m ∧ kk = .int .i64 k ∧ St w.heap.size w wz (own3 u4 vs uss (molX n m rows i k) ++ [box 28 w.heap.size [.int .i64 (n : Int), .int .i64 (C : Int), v]])) (fun _ _ kk _ => m - (intOf kk).toNat)
                  case atStart => exact ⟨0, by omega, rfl, hS⟩
                  case round =>
                    obtain ⟨k, hk, rfl, hS⟩ := hrel
                    by_cases hkm : k < m
                    · have hfu := Hf3.out i k
                      have hkx : k < (molX n m rows i k).length := by rw [molX_len]; exact hkm
                      have hR3 := hS.riii hfu
                      have ck := hR3.cell k hkx
                      have xk := hR3.ixe (k : Int) k rfl hkx
                      have hP := hS.perm (own3_out hfu.1 hfu.2.1 hkx)
                      have hsq : IsSq n (x3at (molX n m rows i k) k) := by rw [molX_at hkm]; exact sqs_sq _ _ _
                      have Hin := own3_in (v := u4) (L2 := [box 28 w.heap.size [.int .i64 (n : Int), .int .i64 (C : Int), v]]) hfu.1 hfu.2.1 hkx (stepS (k + 2) (x3at (molX n m rows i k) k) (xat rows i))
                      rw [molX_set hkm hil] at Hin
                      rw [show stepS (k + 2) (x3at (molX n m rows i k) k) (xat rows i) = (x3at (molX n m rows i k) k).set r0 ((xat (x3at (molX n m rows i k) k) r0).set r1 (nth (xat rows i) (k + 2))) by unfold stepS put2; rw [Hr0.out, Hr1.out, Int.toNat_natCast, Int.toNat_natCast]] at Hin
                      have HIn := Lib.hid Hin
                      have hl := hfu.2.2 k hkx
                      have hr0l : r0 < (x3at (molX n m rows i k) k).length := by rw [hsq.1]; exact hr0n
                      have hr1l : r1 < (xat (x3at (molX n m rows i k) k) r0).length := by rw [hsq.at hr0n]; exact hr1n
                      have hat := hP.at_row hl hr0l
                      have z0 := (rii2 hP hl).cell r0 hr0l
                      have x0 := (rii2 hP hl).ixe (r0 : Int) r0 rfl hr0l
                      have x1 := (hP.rdI (r0 + 1) hat).ixe (r1 : Int) r1 rfl hr1l
                      have co1 := (hP.rdI (r0 + 1) hat).cell r1 hr1l
                      have u1 := hP.unfrozen (r0 + 1) hat (j := r1) (by rw [iv_len]; exact hr1l)
                      have y0 := (hS.oldI Hvr.out).cell 0 (by rw [Hln.out]; omega)
                      have y1 := (hS.oldI Hvr.out).cell 1 (by rw [Hln.out]; omega)
                      rw [Hr0.out] at y0
                      rw [Hr1.out] at y1
                      have xy0 := Hvr.out.ixe 0 0 rfl (by rw [Hln.out]; omega)
                      have xy1 := Hvr.out.ixe 1 1 rfl (by rw [Hln.out]; omega)
                      have hkd : k < ((xat rows i).drop 2).length := by rw [List.length_drop, Hln.out]; omega
                      have ys := (hS.oldI Hrs.out).cell k hkd
                      rw [show nth ((xat rows i).drop 2) k = nth (xat rows i) (k + 2) by simp [nth, Nat.add_comm]] at ys
                      have xs' := Hrs.out.ixe (k : Int) k rfl hkd
                      have HP := Lib.hid hP
                      have Hl := Lib.hid hl
                      have Hat := Lib.hid hat
                      have Hr0l := Lib.hid hr0l
                      have Hr1l := Lib.hid hr1l
                      clear hfu hkx hR3 hP hsq Hin hl hr0l hr1l hat hkd
                      go_wp2_with fail
                      refine regionG (fun w' => w'.cell? (el u4 k) = some (vat vs k) ∧ w'.cell? (el vr 0) = some (.int .i64 r0) ∧ w'.cell? (el (vat vs k) r0) = some (vat (vsat uss k) r0) ∧ w'.cell? (el vr 1) = some (.int .i64 r1)) 14 (by kernel_rfl) ⟨cell_dr ck, cell_dr y0, cell_dr z0, cell_dr y1⟩ (fun hHeld => ?_)
                      refine takeP (i := 0) (v := ?_) rfl (by kernel_rfl) (fun _ _ _ h => h) (by rfl) ?_ (by assumption) ?_
                      case refine_2 => (intro w'; go_simp; first | done | with_reducible rfl)
                      try simp only [Act.put, List.setIfInBounds_toArray, List.set_cons_zero, List.set_cons_succ]
                      refine takeP (i := 1) (v := ?_) rfl (by kernel_rfl) (fun _ _ _ h => h) (by rfl) ?_ (by assumption) ?_
                      case refine_2 => (intro w'; go_simp; first | done | with_reducible rfl)
                      try simp only [Act.put, List.setIfInBounds_toArray, List.set_cons_zero, List.set_cons_succ]
                      refine takeP (i := 2) (v := ?_) rfl (by kernel_rfl) (fun _ _ _ h => h) (by rfl) ?_ (by assumption) ?_
                      case refine_2 => (intro w'; go_simp; first | done | with_reducible rfl)
                      try simp only [Act.put, List.setIfInBounds_toArray, List.set_cons_zero, List.set_cons_succ]
                      refine takeH (i := 3) [7, 8, 13] (v := ?_) rfl (by kernel_rfl) (fun _ _ _ h => h) (by rfl) ?_ (by assumption) ?_
                      case refine_2 => (intro w' hSw; (try dsimp only at hSw); go_simp; first | done | with_reducible rfl)
                      try simp only [Act.put, List.setIfInBounds_toArray, List.set_cons_zero, List.set_cons_succ]
                      refine takeP (i := 4) (v := ?_) rfl (by kernel_rfl) (fun _ _ _ h => h) (by rfl) ?_ (by assumption) ?_
                      case refine_2 => (intro w'; go_simp; first | done | with_reducible rfl)
                      try simp only [Act.put, List.setIfInBounds_toArray, List.set_cons_zero, List.set_cons_succ]
                      refine takeP (i := 5) (v := ?_) rfl (by kernel_rfl) (fun _ _ _ h => h) (by rfl) ?_ (by assumption) ?_
                      case refine_2 => (intro w'; go_simp; first | done | with_reducible rfl)
                      try simp only [Act.put, List.setIfInBounds_toArray, List.set_cons_zero, List.set_cons_succ]
                      refine takeH (i := 6) [7, 8, 13] (v := ?_) rfl (by kernel_rfl) (fun _ _ _ h => h) (by rfl) ?_ (by assumption) ?_
                      case refine_2 => (intro w' hSw; (try dsimp only at hSw); go_simp; first | done | with_reducible rfl)
                      try simp only [Act.put, List.setIfInBounds_toArray, List.set_cons_zero, List.set_cons_succ]
                      refine takeP (i := 7) (v := ?_) rfl (by kernel_rfl) (fun _ _ _ h => h) (by rfl) ?_ (by assumption) ?_
                      case refine_2 => (intro w'; go_simp; first | done | with_reducible rfl)
                      try simp only [Act.put, List.setIfInBounds_toArray, List.set_cons_zero, List.set_cons_succ]
                      refine takeH (i := 8) [13] (v := ?_) rfl (by kernel_rfl) (fun _ _ _ h => h) (by rfl) ?_ (by assumption) ?_
                      case refine_2 => (intro w' hSw; (try dsimp only at hSw); go_simp; first | done | with_reducible rfl)
                      try simp only [Act.put, List.setIfInBounds_toArray, List.set_cons_zero, List.set_cons_succ]
                      refine takeP (i := 9) (v := ?_) rfl (by kernel_rfl) (fun _ _ _ h => h) (by rfl) ?_ (by assumption) ?_
                      case refine_2 => (intro w'; go_simp; first | done | with_reducible rfl)
                      try simp only [Act.put, List.setIfInBounds_toArray, List.set_cons_zero, List.set_cons_succ]
                      refine takeP (i := 10) (v := ?_) rfl (by kernel_rfl) (fun _ _ _ h => h) (by rfl) ?_ (by assumption) ?_
                      case refine_2 => (intro w'; go_simp; first | done | with_reducible rfl)
                      try simp only [Act.put, List.setIfInBounds_toArray, List.set_cons_zero, List.set_cons_succ]
                      refine takeH (i := 11) [13] (v := ?_) rfl (by kernel_rfl) (fun _ _ _ h => h) (by rfl) ?_ (by assumption) ?_
                      case refine_2 => (intro w' hSw; (try dsimp only at hSw); go_simp; first | done | with_reducible rfl)
                      try simp only [Act.put, List.setIfInBounds_toArray, List.set_cons_zero, List.set_cons_succ]
                      refine takeP (i := 12) (v := ?_) rfl (by kernel_rfl) (fun _ _ _ h => h) (by rfl) ?_ (by assumption) ?_
                      case refine_2 => (intro w'; go_simp; first | done | with_reducible rfl)
                      try simp only [Act.put, List.setIfInBounds_toArray, List.set_cons_zero, List.set_cons_succ]
                      refine takeP (i := 13) (v := ?_) rfl (by kernel_rfl) (fun _ _ _ h => h) (by rfl) ?_ (by assumption) ?_
                      case refine_2 => (intro w'; go_simp; first | done | with_reducible rfl)
                      try simp only [Act.put, List.setIfInBounds_toArray, List.set_cons_zero, List.set_cons_succ]
                      refine readyG (rs := [14]) (by kernel_rfl) (by simp) ?_
                      refine AllG.last rfl (by kernel_rfl) (fun K hK => ?_) AllG.nil
                      go_simp
                      refine hK.out _ _ ?_
                      clear hK K
                      try simp only [Act.put, List.setIfInBounds_toArray, List.set_cons_zero, List.set_cons_succ]
                      refine doneG (by kernel_rfl) ?_ _
                      refine NoPanic.normal ?_
                      have hS9 := HP.out.drew.store (r0 + 1) Hat.out (j := r1) (by rw [iv_len]; exact Hr1l.out) (.int .i64 (nth (xat rows i) (k + 2)))
                      rw [iv_set, own2_set Hl.out Hr0l.out] at hS9
                      have hS10 := hS9.perm HIn.out
                      clear hS9
                      go_wp2_with fail
                      go_roundw
                      case rel => exact ⟨k + 1, by omega, by go_num, hS10⟩
                      case measure => simp [intOf]; omega
                    · have hke : k = m := by omega
                      rw [hke, molX_end] at hS
                      clear hke
                      go_wp2_with fail
                      go_roundw
                      case rel => exact ⟨i + 1, by omega, by go_num, hS⟩
                      case measure => simp [intOf]; omega
                · have hie : i = rows.length := by omega
                  rw [hie] at hS
                  clear hie
                  go_wp2_with fail
                  go_ret2
                  rw [HM2.out, HC.out]
                  exact ⟨u4, vs, uss, rfl, Hf3.out _ _, hS.sub (List.sublist_append_left _ _)⟩
        · have f1 := ne_t hst
          have HC := Lib.hid (show molsC n C rows = 6 by rw [molsC, if_pos hok, if_pos (.inr (.inr (by simpa using hst)))])
          have HM := Lib.hid (show molsM n C rows = [] by rw [molsM, HC.out]; rfl)
          clear hok hsh hrow hst
          go_enter Try.func12, Try.ntmps12
          go_wp2_with fail
          refine HV.out.mono ?_
          rw [Hok.out]
          rintro e w1 ⟨rfl, h1⟩
          have hS1 := hS0.call0 h1
          have b0 := hS1.bcell 0 rfl 0 rfl
          have b1 := hS1.bcell 0 rfl 1 rfl
          have b2 := hS1.bcell 0 rfl 2 rfl
          go_wp2_with fail
          refine (HI _ (hS1.oldII hv)).out.mono ?_
          rintro e w2 ⟨rfl, h2⟩
          have hS2 := hS1.call0 h2
          go_wp2_with fail
          go_ret2
          exact MakesIIIC.no HM.out HC.out hS2
end Go.Proofs.Ytejncephbafcdaa
end

section
/- Plain: orthogonal arrays of strength 2 and orthogonal squares lead to each other. -/
namespace Go.Proofs.Ytejncephbafcdaa
set_option linter.unusedSimpArgs false
set_option linter.unusedVariables false

/-- strength 2 and index 1, by the rows -/
structure S2 (n m : Nat) (rows : List (List Int)) : Prop where
  len : ∀ i, i < rows.length → (xat rows i).length = m
  bd : ∀ i j, i < rows.length → j < m → 0 ≤ nth (xat rows i) j ∧ nth (xat rows i) j < n
  ex : ∀ a b, a < b → b < m → ∀ u v : Nat, u < n → v < n → ∃ i, i < rows.length ∧ nth (xat rows i) a = u ∧ nth (xat rows i) b = v
  un : ∀ a b, a < b → b < m → ∀ i i', i < rows.length → i' < rows.length → nth (xat rows i) a = nth (xat rows i') a → nth (xat rows i) b = nth (xat rows i') b → i = i'
theorem countP_one {p : List Int → Bool} {rows : List (List Int)} {i : Nat} (hi : i < rows.length) (hp : p (xat rows i) = true) (hu : ∀ j, j < rows.length → p (xat rows j) = true → j = i) : rows.countP p = 1 := by
  have e : rows = rows.take i ++ (xat rows i :: rows.drop (i + 1)) := by rw [← drop_xat hi, List.take_append_drop]
  rw [e, List.countP_append, List.countP_cons_of_pos hp]
  have h1 : (rows.take i).countP p = 0 := by
    rw [List.countP_eq_zero]
    intro r hr hpr
    obtain ⟨j, hj, rfl⟩ := List.getElem_of_mem hr
    rw [List.length_take] at hj
    rw [List.getElem_take, ← xat_eq (by omega)] at hpr
    have := hu j (by omega) hpr
    omega
  have h2 : (rows.drop (i + 1)).countP p = 0 := by
    rw [List.countP_eq_zero]
    intro r hr hpr
    obtain ⟨j, hj, rfl⟩ := List.getElem_of_mem hr
    rw [List.length_drop] at hj
    rw [List.getElem_drop, ← xat_eq (by omega)] at hpr
    have := hu _ (by omega) hpr
    omega
  omega
theorem countP_uni {p : List Int → Bool} {rows : List (List Int)} (h : rows.countP p = 1) {i j : Nat} (hij : i < j) (hj : j < rows.length) (hpi : p (xat rows i) = true) (hpj : p (xat rows j) = true) : False := by
  have hi : i < rows.length := by omega
  have e : rows = rows.take i ++ (xat rows i :: rows.drop (i + 1)) := by rw [← drop_xat hi, List.take_append_drop]
  rw [e, List.countP_append, List.countP_cons_of_pos hpi] at h
  have : 0 < (rows.drop (i + 1)).countP p := by
    rw [List.countP_pos_iff]
    refine ⟨xat rows j, ?_, hpj⟩
    rw [List.mem_iff_getElem]
    exact ⟨j - (i + 1), by rw [List.length_drop]; omega, by rw [List.getElem_drop, xat_eq hj]; congr 1; omega⟩
  omega
theorem numC_2 (n : Nat) (a b : Nat) (r : List Int) : numC n [(a : Int), (b : Int)] r = nth r a * n + nth r b := by
  simp only [numC, List.foldl_cons, List.foldl_nil, Int.toNat_natCast, Int.zero_mul, Int.zero_add]; rfl
theorem two_eq {n u v u' v' : Int} (hn : 0 < n) (h0 : 0 ≤ v) (h1 : v < n) (h2 : 0 ≤ v') (h3 : v' < n) (h : u * n + v = u' * n + v') : u = u' ∧ v = v' := by
  have e1 : (u * n + v) / n = u := by rw [Int.add_comm, Int.add_mul_ediv_right _ _ (by omega), Int.ediv_eq_zero_of_lt h0 h1, Int.zero_add]
  have e2 : (u' * n + v') / n = u' := by rw [Int.add_comm, Int.add_mul_ediv_right _ _ (by omega), Int.ediv_eq_zero_of_lt h2 h3, Int.zero_add]
  have : u = u' := by rw [← e1, ← e2, h]
  subst this
  exact ⟨rfl, by omega⟩
theorem pair_check : ((List.range 9).all fun co => (List.range co).all fun b => (List.range b).all fun a => (List.range 29).any fun r => decide ((r : Int) < choose (co : Nat) 2) && decide (subsAt (co : Nat) 2 r = [(a : Int), (b : Int)])) = true := by decide +kernel
/-- the rows of an array of strength 2 and index 1 -/
theorem S2.of {n co : Nat} {rows : List (List Int)} (n2 : 2 ≤ n) (c8 : co ≤ 8) (hl : ∀ i, i < rows.length → (xat rows i).length = co) (hb : ∀ i j, i < rows.length → j < co → 0 ≤ nth (xat rows i) j ∧ nth (xat rows i) j < n)
    (h : strG n co rows 2 ((n * n : Nat) : Int) = 1) : S2 n co rows := by
  have hK : 0 < n * n := Nat.mul_pos (by omega) (by omega)
  have hall : allS co 2 (fun cols => evB n cols rows (n * n) ≠ 0) ∧ (rows.length : Int) / ((n * n : Nat) : Int) = 1 := by
    unfold strG at h
    split at h
    · omega
    · split at h
      · rename_i h1; rw [Int.toNat_natCast] at h1; exact ⟨h1, h⟩
      · omega
  have hcnt : ∀ a b, a < b → b < co → ∀ u v : Nat, u < n → v < n → rows.countP (fun row => numC n [(a : Int), (b : Int)] row == ((u * n + v : Nat) : Int)) = 1 := by
    intro a b hab hbc u v hu hv
    have hc := pair_check
    simp only [List.all_eq_true, List.any_eq_true, List.mem_range, Bool.and_eq_true, decide_eq_true_eq] at hc
    obtain ⟨r, _, hr, hs⟩ := hc co (by omega) b hbc a hab
    have h1 := hall.1 r hr
    rw [hs] at h1
    have h2 := (evB_ne hK (fun row hrow => by
      obtain ⟨i, hi, rfl⟩ := List.getElem_of_mem hrow
      rw [← xat_eq hi, numC_2]
      have e1 := hb i a hi (by omega)
      have e2 := hb i b hi hbc
      refine ⟨Int.add_nonneg (Int.mul_nonneg e1.1 (by omega)) e2.1, ?_⟩
      have : nth (xat rows i) a * n ≤ (n - 1) * (n : Int) := Int.mul_le_mul_of_nonneg_right (by omega) (by omega)
      push_cast
      rw [Int.sub_mul] at this; omega) h1).2.2 (u * n + v) (by
        have : u * n ≤ (n - 1) * n := Nat.mul_le_mul_right _ (by omega)
        rw [Nat.sub_mul] at this
        have : n ≤ n * n := Nat.le_mul_of_pos_left _ (by omega)
        omega)
    rw [hall.2] at h2
    unfold cntR at h2
    exact_mod_cast h2
  refine ⟨hl, hb, fun a b hab hbc u v hu hv => ?_, fun a b hab hbc i i' hi hi' e1 e2 => ?_⟩
  · have h1 := hcnt a b hab hbc u v hu hv
    have h2 : 0 < rows.countP (fun row => numC n [(a : Int), (b : Int)] row == ((u * n + v : Nat) : Int)) := by omega
    obtain ⟨r, hr, hp⟩ := List.countP_pos_iff.1 h2
    obtain ⟨i, hi, rfl⟩ := List.getElem_of_mem hr
    rw [← xat_eq hi, beq_iff_eq, numC_2] at hp
    push_cast at hp
    have e2 := hb i b hi hbc
    obtain ⟨g1, g2⟩ := two_eq (by omega) e2.1 e2.2 (by omega) (by omega) hp
    exact ⟨i, hi, g1, g2⟩
  · have a1 := hb i a hi (by omega)
    have a2 := hb i b hi hbc
    obtain ⟨u, hu⟩ : ∃ u : Nat, nth (xat rows i) a = u := ⟨_, (Int.toNat_of_nonneg a1.1).symm⟩
    obtain ⟨v, hv⟩ : ∃ v : Nat, nth (xat rows i) b = v := ⟨_, (Int.toNat_of_nonneg a2.1).symm⟩
    have h1 := hcnt a b hab hbc u v (by omega) (by omega)
    have p1 : (numC n [(a : Int), (b : Int)] (xat rows i) == ((u * n + v : Nat) : Int)) = true := by rw [beq_iff_eq, numC_2, hu, hv]; push_cast; rfl
    have p2 : (numC n [(a : Int), (b : Int)] (xat rows i') == ((u * n + v : Nat) : Int)) = true := by rw [beq_iff_eq, numC_2, ← e1, ← e2, hu, hv]; push_cast; rfl
    rcases Nat.lt_trichotomy i i' with h | h | h
    · exact (countP_uni h1 h hi' p1 p2).elim
    · exact h
    · exact (countP_uni h1 h hi p2 p1).elim
section
variable {n m : Nat} {rows : List (List Int)}
theorem S2.sq (h : S2 n m rows) (h2 : 2 ≤ m) {c : Nat} (hc : c < m) : ∀ k, k ≤ rows.length → ∀ i, i < k → at2 (sqs n c (rows.take k)) (pf (xat rows i) 0) (pf (xat rows i) 1) = nth (xat rows i) c
  | 0, _, i, hi => by omega
  | k + 1, hk, i, hi => by
    have hq := sqs_sq n c (rows.take k)
    have hs : Sqr n (sqs n c (rows.take k)) := ⟨hq.1, fun x hx => hq.at hx⟩
    have bk0 := h.bd k 0 (by omega) (by omega)
    have bk1 := h.bd k 1 (by omega) (by omega)
    have bi0 := h.bd i 0 (by omega) (by omega)
    have bi1 := h.bd i 1 (by omega) (by omega)
    rw [take_xat (by omega), sqs_snoc]
    show at2 (putS (sqs n c (rows.take k)) (pf (xat rows k) 0) (pf (xat rows k) 1) (nth (xat rows k) c)) _ _ = _
    rw [at2_putS hs (by unfold pf; omega) (by unfold pf; omega)]
    by_cases e : i = k
    · subst e; rw [if_pos ⟨rfl, rfl⟩]
    · rw [if_neg, S2.sq h h2 hc k (by omega) i (by omega)]
      rintro ⟨e1, e2⟩
      unfold pf at e1 e2
      exact e (h.un 0 1 (by omega) (by omega) i k (by omega) (by omega) (by omega) (by omega))
theorem S2.cell (h : S2 n m rows) (h2 : 2 ≤ m) {c : Nat} (hc : c < m) {x y : Nat} (hx : x < n) (hy : y < n) : ∃ i, i < rows.length ∧ nth (xat rows i) 0 = x ∧ nth (xat rows i) 1 = y ∧ at2 (sqs n c rows) x y = nth (xat rows i) c := by
  obtain ⟨i, hi, e1, e2⟩ := h.ex 0 1 (by omega) (by omega) x y hx hy
  have := h.sq h2 hc rows.length (by omega) i hi
  rw [List.take_length] at this
  unfold pf at this
  rw [e1, e2, Int.toNat_natCast, Int.toNat_natCast] at this
  exact ⟨i, hi, e1, e2, this⟩
theorem S2.lat (h : S2 n m rows) (n1 : 1 ≤ n) (n10 : n ≤ 10) {c : Nat} (c2 : 2 ≤ c) (hc : c < m) : Lat (sqs n c rows) := by
  have hq := sqs_sq n c rows
  have hl := hq.1
  have hel : ∀ x y, x < n → y < n → 0 ≤ at2 (sqs n c rows) x y ∧ at2 (sqs n c rows) x y < n := fun x y hx hy => by
    obtain ⟨i, hi, _, _, e⟩ := h.cell (by omega) hc hx hy
    rw [e]; exact h.bd i c hi hc
  refine ⟨by omega, by omega, fun x hx => by rw [hl]; exact hq.at (by omega), fun x hx => ⟨fun j hj => ?_, fun j j' hj hj' e => ?_⟩, fun y hy => ⟨fun j hj => ?_, fun j j' hj hj' e => ?_⟩⟩
  · rw [hq.at (by omega)] at hj ⊢; exact hel x j (by omega) hj
  · rw [hq.at (by omega)] at hj hj'
    obtain ⟨i, hi, a0, a1, a2⟩ := h.cell (by omega) hc (show x < n by omega) hj
    obtain ⟨i', hi', b0, b1, b2⟩ := h.cell (by omega) hc (show x < n by omega) hj'
    have e' : at2 (sqs n c rows) x j = at2 (sqs n c rows) x j' := e
    have := h.un 0 c (by omega) hc i i' hi hi' (by rw [a0, b0]) (by rw [← a2, ← b2, e'])
    subst this; omega
  · rw [colL_len, hl] at hj ⊢; rw [nth_colL (by omega)]; exact hel j y hj (by omega)
  · rw [colL_len, hl] at hj hj'
    rw [nth_colL (by omega), nth_colL (by omega)] at e
    obtain ⟨i, hi, a0, a1, a2⟩ := h.cell (by omega) hc hj (show y < n by omega)
    obtain ⟨i', hi', b0, b1, b2⟩ := h.cell (by omega) hc hj' (show y < n by omega)
    have := h.un 1 c (by omega) hc i i' hi hi' (by rw [a1, b1]) (by rw [← a2, ← b2, e])
    subst this; omega
theorem S2.ort (h : S2 n m rows) {c d : Nat} (hcd : c < d) (hd : d < m) (h2 : 2 ≤ m) : Ort n (sqs n c rows) (sqs n d rows) := by
  intro x y x' y' hx hy hx' hy' e1 e2
  obtain ⟨i, hi, a0, a1, a2⟩ := h.cell h2 (show c < m by omega) hx hy
  obtain ⟨i', hi', b0, b1, b2⟩ := h.cell h2 (show c < m by omega) hx' hy'
  obtain ⟨k, hk, c0, c1, c2⟩ := h.cell h2 hd hx hy
  obtain ⟨k', hk', d0, d1, d2⟩ := h.cell h2 hd hx' hy'
  have hik : k = i := h.un 0 1 (by omega) (by omega) k i hk hi (by rw [a0, c0]) (by rw [a1, c1])
  have hik' : k' = i' := h.un 0 1 (by omega) (by omega) k' i' hk' hi' (by rw [b0, d0]) (by rw [b1, d1])
  subst hik; subst hik'
  have := h.un c d hcd hd k k' hk hk' (by rw [← a2, ← b2, e1]) (by rw [← c2, ← d2, e2])
  subst this
  omega
/-- the squares of an array are orthogonal -/
theorem S2.mols (h : S2 n m rows) (n1 : 1 ≤ n) (n10 : n ≤ 10) (m3 : 3 ≤ m) (m8 : m ≤ 8) : Mols (molX n (m - 2) rows rows.length 0) := by
  have he : ∀ k, k < m - 2 → x3at (molX n (m - 2) rows rows.length 0) k = sqs n (k + 2) rows := fun k hk => by rw [molX_at hk, if_neg (by omega), List.take_length]
  refine ⟨by rw [molX_len]; omega, by rw [molX_len]; omega, fun k hk => ?_, fun k i hik hk => ?_⟩
  · rw [molX_len] at hk; rw [he k hk]; exact h.lat n1 n10 (by omega) (by omega)
  · rw [molX_len] at hk
    rw [he k hk, he i (by omega), orB_symm]
    refine orB_yes (by rw [(sqs_sq _ _ _).1, (sqs_sq _ _ _).1]) ?_
    rw [(sqs_sq _ _ _).1]
    exact h.ort (by omega) (by omega) (by omega)
end
theorem IsP.onto {xs : List Int} (h : IsP xs) {v : Nat} (hv : v < xs.length) : ∃ j, j < xs.length ∧ nth xs j = v := by
  have : (v : Int) ∈ xs := h.perm.mem_iff.2 (mem_iot.2 ⟨by omega, by omega⟩)
  obtain ⟨j, hj, e⟩ := List.getElem_of_mem this
  exact ⟨j, hj, by rw [nth_eq hj, e]⟩
theorem amRow_0 (X : List (List (List Int))) (x y : Nat) : nth (amRow X x y) 0 = x := rfl
theorem amRow_1 (X : List (List (List Int))) (x y : Nat) : nth (amRow X x y) 1 = y := rfl
theorem amRow_2 {X : List (List (List Int))} (x y : Nat) {k : Nat} (hk : k < X.length) : nth (amRow X x y) (k + 2) = at2 (x3at X k) x y := by
  rw [amRow, nth, List.getD, List.getElem?_append_right (by simp)]
  simp [hk, x3at_eq hk]
theorem amL_at {n m c : Nat} {X : List (List (List Int))} (h : c < m) : xat (amL n X m) c = amRow X (c / n) (c % n) := by rw [xat_eq (by rw [amL_len]; exact h)]; simp [amL]
/-- the array of orthogonal squares has strength 2 and index 1 -/
theorem Mols.s2 {X : List (List (List Int))} (h : Mols X) {n : Nat} (hn : n = (x3at X 0).length) : S2 n (X.length + 2) (amL n X (n * n)) := by
  have hl : ∀ k, k < X.length → (x3at X k).length = n := fun k hk => by rw [hn]; exact h.len hk
  have n1 : 1 ≤ n := by rw [hn]; exact (h.lat 0 h.pos).pos
  have hd : ∀ i, i < n * n → i / n < n ∧ i % n < n := fun i hi => ⟨Nat.div_lt_of_lt_mul hi, Nat.mod_lt _ n1⟩
  have hj : ∀ x y, x < n → y < n → (x * n + y) / n = x ∧ (x * n + y) % n = y ∧ x * n + y < n * n := fun x y hx hy => by
    refine ⟨by rw [Nat.mul_comm, Nat.mul_add_div (by omega), Nat.div_eq_of_lt hy]; rfl, by rw [Nat.mul_comm, Nat.mul_add_mod, Nat.mod_eq_of_lt hy], ?_⟩
    have : x * n ≤ (n - 1) * n := Nat.mul_le_mul_right _ (by omega)
    rw [Nat.sub_mul] at this
    have : n ≤ n * n := Nat.le_mul_of_pos_left _ (by omega)
    omega
  have hrow : ∀ k x, k < X.length → x < n → IsP (xat (x3at X k) x) ∧ (xat (x3at X k) x).length = n := fun k x hk hx => ⟨(h.lat k hk).row x (by rw [hl k hk]; exact hx), by rw [(h.lat k hk).len x (by rw [hl k hk]; exact hx), hl k hk]⟩
  have hcol : ∀ k y, k < X.length → y < n → IsP (colL (x3at X k) y) ∧ (colL (x3at X k) y).length = n := fun k y hk hy => ⟨(h.lat k hk).col y (by rw [hl k hk]; exact hy), by rw [colL_len, hl k hk]⟩
  have hort : ∀ i k, i < k → k < X.length → Ort n (x3at X i) (x3at X k) := fun i k hik hk => by
    have := (orB_t (h.ort k i hik hk)).2
    rw [hl k hk] at this; exact this.symm
  have hsq : ∀ k, k < X.length → Sq0 n (x3at X k) := fun k hk => by have := (h.lat k hk).sq0; rwa [hl k hk] at this
  refine ⟨fun i hi => ?_, fun i j hi hj' => ?_, fun a b hab hb u v hu hv => ?_, fun a b hab hb i i' hi hi' e1 e2 => ?_⟩
  · rw [amL_len] at hi; rw [amL_at hi]; simp [amRow]
  · rw [amL_len] at hi
    obtain ⟨d1, d2⟩ := hd i hi
    rw [amL_at hi]
    match j with
    | 0 => rw [amRow_0]; exact ⟨Int.natCast_nonneg _, by exact_mod_cast d1⟩
    | 1 => rw [amRow_1]; exact ⟨Int.natCast_nonneg _, by exact_mod_cast d2⟩
    | k + 2 => rw [amRow_2 _ _ (by omega)]; exact (hsq k (by omega)).el _ _ d1 d2
  · have hplace : ∀ x y, x < n → y < n → nth (amRow X x y) a = u → nth (amRow X x y) b = v → ∃ i, i < (amL n X (n * n)).length ∧ nth (xat (amL n X (n * n)) i) a = u ∧ nth (xat (amL n X (n * n)) i) b = v := fun x y hx hy e1 e2 => by
      obtain ⟨g1, g2, g3⟩ := hj x y hx hy
      exact ⟨x * n + y, by rw [amL_len]; exact g3, by rw [amL_at g3, g1, g2]; exact e1, by rw [amL_at g3, g1, g2]; exact e2⟩
    match a, b, hab, hb with
    | 0, 1, _, _ => exact hplace u v hu hv rfl rfl
    | 0, k + 2, _, hb =>
      obtain ⟨r1, r2⟩ := hrow k u (by omega) hu
      obtain ⟨y, hy, e⟩ := r1.onto (v := v) (by omega)
      exact hplace u y hu (by omega) rfl (by rw [amRow_2 _ _ (by omega)]; exact e)
    | 1, k + 2, _, hb =>
      obtain ⟨r1, r2⟩ := hcol k u (by omega) hu
      obtain ⟨x, hx, e⟩ := r1.onto (v := v) (by omega)
      rw [nth_colL (by rw [← colL_len]; exact hx)] at e
      exact hplace x u (by omega) hu rfl (by rw [amRow_2 _ _ (by omega)]; exact e)
    | j + 2, k + 2, hab, hb =>
      have ho := hort j k (by omega) (by omega)
      have hp : IsP ((List.range (n * n)).map fun c => ((ovF n (x3at X j) (x3at X k) (c / n) (c % n) : Nat) : Int)) := by
        refine ⟨fun t ht => ?_, fun t t' ht ht' e => ?_⟩
        · simp only [List.length_map, List.length_range] at ht ⊢
          rw [nth_eq (by simpa using ht)]
          simp only [List.getElem_map, List.getElem_range]
          have := ovF_lt (hsq j (by omega)) (hsq k (by omega)) (hd t ht).1 (hd t ht).2
          omega
        · simp only [List.length_map, List.length_range] at ht ht'
          rw [nth_eq (by simpa using ht), nth_eq (by simpa using ht')] at e
          simp only [List.getElem_map, List.getElem_range] at e
          have e' : ovF n (x3at X j) (x3at X k) (t / n) (t % n) = ovF n (x3at X j) (x3at X k) (t' / n) (t' % n) := by omega
          obtain ⟨g1, g2⟩ := (ovF_inj (hsq j (by omega)) (hsq k (by omega)) (hd t ht).1 (hd t ht).2 (hd t' ht').1 (hd t' ht').2).1 e'
          obtain ⟨q1, q2⟩ := ho _ _ _ _ (hd t ht).1 (hd t ht).2 (hd t' ht').1 (hd t' ht').2 g1 g2
          rw [← Nat.div_add_mod t n, ← Nat.div_add_mod t' n, q1, q2]
      obtain ⟨t, ht, e⟩ := hp.onto (v := n * u + v) (by
        simp only [List.length_map, List.length_range]
        have := (hj u v hu hv).2.2; rw [Nat.mul_comm n u]; exact this)
      simp only [List.length_map, List.length_range] at ht
      rw [nth_eq (by simpa using ht)] at e
      simp only [List.getElem_map, List.getElem_range] at e
      obtain ⟨e1, l1⟩ := af_eq (hsq j (by omega)) (hd t ht).1 (hd t ht).2
      obtain ⟨e2, l2⟩ := af_eq (hsq k (by omega)) (hd t ht).1 (hd t ht).2
      unfold ovF at e
      have e3 : (af (x3at X j) (t / n) (t % n) : Int) * n + (af (x3at X k) (t / n) (t % n) : Int) = (u : Int) * n + v := by
        have := e; push_cast at this; rw [Int.mul_comm, this, Int.mul_comm]
      obtain ⟨g1, g2⟩ := two_eq (by omega) (by omega) (by omega) (by omega) (by omega) e3
      exact hplace _ _ (hd t ht).1 (hd t ht).2 (by rw [amRow_2 _ _ (by omega), e1, g1]) (by rw [amRow_2 _ _ (by omega), e2, g2])
  · rw [amL_len] at hi hi'
    obtain ⟨d1, d2⟩ := hd i hi
    obtain ⟨d1', d2'⟩ := hd i' hi'
    rw [amL_at hi, amL_at hi'] at e1 e2
    have hfin : i / n = i' / n → i % n = i' % n → i = i' := fun g1 g2 => by rw [← Nat.div_add_mod i n, ← Nat.div_add_mod i' n, g1, g2]
    match a, b, hab, hb with
    | 0, 1, _, _ =>
      rw [amRow_0, amRow_0] at e1
      rw [amRow_1, amRow_1] at e2
      exact hfin (by omega) (by omega)
    | 0, k + 2, _, hb =>
      rw [amRow_0, amRow_0] at e1
      rw [amRow_2 _ _ (by omega), amRow_2 _ _ (by omega)] at e2
      have g : i / n = i' / n := by omega
      rw [g] at e2
      obtain ⟨r1, r2⟩ := hrow k (i' / n) (by omega) d1'
      exact hfin g (r1.inj _ _ (by omega) (by omega) e2)
    | 1, k + 2, _, hb =>
      rw [amRow_1, amRow_1] at e1
      rw [amRow_2 _ _ (by omega), amRow_2 _ _ (by omega)] at e2
      have g : i % n = i' % n := by omega
      rw [g] at e2
      obtain ⟨r1, r2⟩ := hcol k (i' % n) (by omega) d2'
      exact hfin (r1.inj _ _ (by omega) (by omega) (by rw [nth_colL (by rw [hl k (by omega)]; exact d1), nth_colL (by rw [hl k (by omega)]; exact d1')]; exact e2)) g
    | j + 2, k + 2, hab, hb =>
      rw [amRow_2 _ _ (by omega), amRow_2 _ _ (by omega)] at e1 e2
      obtain ⟨q1, q2⟩ := hort j k (by omega) (by omega) _ _ _ _ d1 d2 d1' d2' e1 e2
      exact hfin q1 q2
/-- and its squares are those it was made of -/
theorem Mols.amBack {X : List (List (List Int))} (h : Mols X) {n : Nat} (hn : n = (x3at X 0).length) : molX n X.length (amL n X (n * n)) (n * n) 0 = X := by
  have h2 := h.s2 hn
  have n1 : 1 ≤ n := by rw [hn]; exact (h.lat 0 h.pos).pos
  refine x3_ext (by rw [molX_len]) fun c hc => ?_
  rw [molX_len] at hc
  have hl : (x3at X c).length = n := by rw [hn]; exact h.len hc
  rw [molX_at hc, if_neg (by omega)]
  have e1 : (amL n X (n * n)).take (n * n) = amL n X (n * n) := List.take_of_length_le (by rw [amL_len]; omega)
  rw [e1]
  have hq := sqs_sq n (c + 2) (amL n X (n * n))
  have hs := (h.lat c hc).sq0
  rw [hl] at hs
  refine sq_ext (n := n) ⟨hq.1, fun x hx => hq.at hx⟩ hs.toSqr fun x y hx hy => ?_
  obtain ⟨i, hi, a0, a1, a2⟩ := h2.cell (by omega) (show c + 2 < X.length + 2 by omega) hx hy
  rw [amL_len] at hi
  rw [a2]
  rw [amL_at hi] at a0 a1 ⊢
  rw [amRow_0] at a0
  rw [amRow_1] at a1
  rw [amRow_2 _ _ hc, show i / n = x by omega, show i % n = y by omega]
theorem S2.oa {n m : Nat} {rows : List (List Int)} (h : S2 n m rows) (n1 : 1 ≤ n) : OA1 n m 2 rows := by
  refine ⟨fun r hr => ?_, fun r hr j hj => ?_, fun cols hc hl j hj => ?_⟩
  · obtain ⟨i, hi, rfl⟩ := List.getElem_of_mem hr; rw [← xat_eq hi]; exact h.len i hi
  · obtain ⟨i, hi, rfl⟩ := List.getElem_of_mem hr
    rw [← xat_eq hi]
    have := h.bd i j hi hj
    exact ⟨this.1, by have := this.2; show nth (xat rows i) j ≤ _; omega⟩
  · match cols, hl with
    | [a, b], _ =>
      have hg := incB_gt hc
      have ha := hg a (by simp)
      have hb := hg b (by simp)
      have hab : a < b := by
        rw [incB, if_neg (by omega), incB] at hc
        by_cases e : b ≤ a ∨ (m : Int) ≤ b
        · rw [if_pos e] at hc; cases hc
        · omega
      obtain ⟨a, rfl⟩ := Int.eq_ofNat_of_zero_le (show 0 ≤ a by omega)
      obtain ⟨b, rfl⟩ := Int.eq_ofNat_of_zero_le (show 0 ≤ b by omega)
      rw [Nat.pow_two] at hj
      have d1 : j / n < n := Nat.div_lt_of_lt_mul hj
      have d2 : j % n < n := Nat.mod_lt _ n1
      obtain ⟨i, hi, e1, e2⟩ := h.ex a b (by omega) (by omega) (j / n) (j % n) d1 d2
      have hjj : ((j / n : Nat) : Int) * n + ((j % n : Nat) : Int) = (j : Int) := by
        have := Nat.div_add_mod j n
        rw [Nat.mul_comm] at this
        exact_mod_cast this
      unfold cntR
      rw [countP_one (i := i) hi (by rw [beq_iff_eq, numC_2, e1, e2, hjj]) (fun i' hi' hp => by
        rw [beq_iff_eq, numC_2, ← hjj] at hp
        have b2 := h.bd i' b hi' (by omega)
        obtain ⟨g1, g2⟩ := two_eq (by omega) b2.1 b2.2 (by omega) (by omega) hp
        exact h.un a b (by omega) (by omega) i' i hi' hi (by rw [g1, e1]) (by rw [g2, e2]))]
      rfl
theorem pu_2 {n : Nat} (h : n ≤ 16) : pu n 256 2 1 = ((n * n : Nat) : Int) := by
  rw [pu, if_pos (by omega), pu, if_pos (by omega), pu]; push_cast; rw [Int.one_mul]
theorem S2.strN {n m : Nat} {rows : List (List Int)} (h : S2 n m rows) (n2 : 2 ≤ n) (n16 : n ≤ 16) (m2 : 2 ≤ m) (m8 : m ≤ 8) : strN n m rows 2 = 1 := by
  have := (h.oa (by omega)).str n2 (by omega) m2 m8
  rw [Go.Proofs.Ytejncephbafcdaa.strN, pu_2 n16, ← Nat.pow_two]; exact this
theorem S2.ok {n m : Nat} {rows : List (List Int)} (h : S2 n m rows) (n2 : 2 ≤ n) (n16 : n ≤ 16) (m1 : 1 ≤ m) (m8 : m ≤ 8) (hr : rows.length ≤ 256) : okA n m rows = true := by
  simp only [okA, shapeB, Bool.and_eq_true, decide_eq_true_eq, List.all_eq_true]
  refine ⟨⟨⟨by simp [inB]; omega, by simp [inB]; omega⟩, hr⟩, fun r hr => ?_⟩
  obtain ⟨i, hi, rfl⟩ := List.getElem_of_mem hr
  rw [← xat_eq hi]
  simp only [rowOk, Bool.and_eq_true, decide_eq_true_eq]
  refine ⟨by rw [h.len i hi], ?_⟩
  simp only [anyP, Bool.not_eq_true', List.any_eq_false]
  intro x hx
  obtain ⟨j, hj, rfl⟩ := List.getElem_of_mem hx
  rw [← nth_eq hj]
  have := h.bd i j hi (by rw [← h.len i hi]; exact hj)
  simp [inB]; omega
end Go.Proofs.Ytejncephbafcdaa
end

section
/- Walks: the laws' own comparisons of lists. -/
namespace Go.Proofs.Ytejncephbafcdaa
set_option linter.unusedSimpArgs false
set_option linter.unusedVariables false
open Go.RowKit

set_option maxHeartbeats 1000000 in
set_option maxRecDepth 100000 in
theorem b10Lists_c (va vb : Value) (us ws : List Value) (xs ys : List (List Int)) (w : World) (ha : RII w va us xs) (hb : RII w vb ws ys) :
    Calls Try.prog 13 #[va, vb] w (GivesB w (decide (xs = ys))) := by
  have hla := ha.len
  have hlb := hb.len
  have hia := ha.ix
  have hib := hb.ix
  have hma := ha.le
  by_cases hne : xs.length = ys.length
  · have f0 : ((xs.length : Int) != (ys.length : Int)) = false := ne_f (by omega)
    have hle : xs.length ≤ ys.length := by omega
    have Hne := Lib.hid hne; clear hne
    go_enter Try.func13, Try.ntmps13
    go_wp2_with fail
    go_loopw [5] (fun i wr => ∃ k : Nat, k ≤ xs.length ∧ i = .int .i64 k ∧ Hid (∀ j, j < k → xat xs j = xat ys j) ∧ St w.heap.size w wr []) (fun i _ => xs.length - (intOf i).toNat)
    case atStart => exact ⟨0, by omega, rfl, fun j hj => by omega, St.refl w⟩
    case round =>
      obtain ⟨k, hk, rfl, hI, hS⟩ := hrel
      by_cases hlt : k < xs.length
      · have hqa := fun s : SS w.heap.size w [] => (s.st.oldII ha).cell k hlt
        have hqb := fun s : SS w.heap.size w [] => (s.st.oldII hb).cell k (by omega)
        have hk2 : k < ys.length := by omega
        by_cases h1 : xat xs k = xat ys k
        · have f1 : decide (xat xs k = xat ys k) = true := decide_eq_true h1
          have H1 := Lib.hid h1; clear h1
          go_wp2_with fail
          have hne : Nonempty (SS _ _ _) := ⟨⟨_, hS⟩⟩
          refine wp_region_st (by kernel_rfl) (by kernel_rfl) hS ?_
          repeat (go_big_quiet_step ((go_at_call 50; exact st_quiet (b10Nums_c _ _ _ _ _ (((SS.st _).oldII ha).row k hlt) (((SS.st _).oldII hb).row k hk2)))))
          refine wpQuiet_nil ?_
          rintro _ ⟨s2, rfl⟩
          have hS2 := s2.st
          generalize s2.w = w2 at hS2 ⊢
          go_wp2_with fail
          go_roundw
          case rel => exact ⟨k + 1, by omega, by go_num, fun j hj => by
            by_cases e : j = k
            · subst e; exact H1.out
            · exact hI.out j (by omega), hS2⟩
          case measure => simp [intOf]; omega
        · have f1 : decide (xat xs k = xat ys k) = false := decide_eq_false h1
          have H1 := Lib.hid h1; clear h1
          go_wp2_with fail
          have hne : Nonempty (SS _ _ _) := ⟨⟨_, hS⟩⟩
          refine wp_region_st (by kernel_rfl) (by kernel_rfl) hS ?_
          repeat (go_big_quiet_step ((go_at_call 50; exact st_quiet (b10Nums_c _ _ _ _ _ (((SS.st _).oldII ha).row k hlt) (((SS.st _).oldII hb).row k hk2)))))
          refine wpQuiet_nil ?_
          rintro _ ⟨s2, rfl⟩
          have hS2 := s2.st
          generalize s2.w = w2 at hS2 ⊢
          go_wp2_with fail
          go_ret
          exact ⟨ret_bool (by symm; rw [decide_eq_false_iff_not]; intro e; subst e; exact H1.out rfl), hS2⟩
      · go_wp2_with fail
        go_ret
        refine ⟨ret_bool ?_, hS⟩
        symm; rw [decide_eq_true_iff]
        apply List.ext_getElem Hne.out
        intro j h1 h2
        have := hI.out j (by omega)
        rwa [xat_eq h1, xat_eq h2] at this
  · have f0 : ((xs.length : Int) != (ys.length : Int)) = true := ne_t (by omega)
    have Hne := Lib.hid hne; clear hne
    go_enter Try.func13, Try.ntmps13
    go_wp2_with fail
    go_ret
    exact ⟨ret_bool (by symm; rw [decide_eq_false_iff_not]; intro e; exact Hne.out (by rw [e])), St.refl w⟩

end Go.Proofs.Ytejncephbafcdaa
end

section
/- The law FnArrays, walked. -/
namespace Go.Proofs.Ytejncephbafcdaa
set_option linter.unusedSimpArgs false
set_option linter.unusedVariables false
open Go.RowKit
attribute [local go_sem ↓] Go.wp_at_zero Go.wp_at_succ

/-! ### the plain law -/
theorem arr_back {X : List (List (List Int))} (h : molAC X = 0) : Mols X ∧ okA (molA X).lv (molA X).co (molA X).rows = true ∧ strI (molA X).lv (molA X).co (molA X).rows 2 = 1 ∧ strC (molA X).lv (molA X).co (molA X).rows 2 = 0 ∧
    molsC (molA X).lv (molA X).co (molA X).rows = 0 ∧ molsM (molA X).lv (molA X).co (molA X).rows = X := by
  cases hm : molB X with
  | false => rw [(molA_1 hm).2] at h; exact absurd h (by decide)
  | true =>
    have hM := molB_t hm
    by_cases hb : amBad X
    · rw [(molA_2 hm hb).2] at h; exact absurd h (by decide)
    · have hn : 2 ≤ (x3at X 0).length ∧ X.length ≤ 6 := by unfold amBad at hb; omega
      rw [(molA_0 hm hb).1]
      have hs := hM.s2 rfl
      have hle := (hM.lat 0 hM.pos).le
      have hpos := hM.pos
      have hlen : (amL (x3at X 0).length X ((x3at X 0).length * (x3at X 0).length)).length = (x3at X 0).length * (x3at X 0).length := amL_len _ _ _
      have hlen2 : (amL (x3at X 0).length X ((x3at X 0).length * (x3at X 0).length)).length ≤ 256 := by rw [hlen]; have := Nat.mul_le_mul hle hle; omega
      have hback := hM.amBack rfl
      have ok := hs.ok hn.1 (by omega) (by omega) (by omega) hlen2
      have st := hs.strN hn.1 (by omega) (by omega) (by omega)
      dsimp only
      rw [show ((X.length : Int) + 2) = ((X.length + 2 : Nat) : Int) by omega]
      have c0 : strC ((x3at X 0).length : Nat) ((X.length + 2 : Nat) : Int) (amL (x3at X 0).length X ((x3at X 0).length * (x3at X 0).length)) 2 = 0 := by
        unfold strC; rw [if_neg (by rw [ok]; decide), if_neg (by rw [show inB 2 1 ((X.length + 2 : Nat) : Int) = true by simp [inB]; omega]; decide)]
      have m0 : molsC ((x3at X 0).length : Nat) ((X.length + 2 : Nat) : Int) (amL (x3at X 0).length X ((x3at X 0).length * (x3at X 0).length)) = 0 := by
        unfold molsC; rw [if_pos ok, if_neg]
        rw [Int.toNat_natCast, st]
        omega
      refine ⟨hM, ok, ?_, c0, m0, ?_⟩
      · unfold strI; rw [if_pos c0]; exact st
      · unfold molsM; rw [if_pos m0, hlen, show (((X.length + 2 : Nat) : Int) - 2).toNat = X.length by omega, Int.toNat_natCast]; exact hback
theorem arr_mols {lv co : Int} {rows : List (List Int)} (h : molsC lv co rows = 0) : Mols (molsM lv co rows) ∧ ((molsM lv co rows).length : Int) = co - 2 := by
  cases hok : okA lv co rows with
  | false => unfold molsC at h; rw [if_neg (by rw [hok]; decide)] at h; exact absurd h (by decide)
  | true =>
    have hc : ¬ (co < 3 ∨ 10 < lv ∨ strN lv co.toNat rows 2 ≠ 1) := fun hb => by
      unfold molsC at h; rw [if_pos hok, if_pos hb] at h; exact absurd h (by decide)
    obtain ⟨hsh, hlen, hrow⟩ := okA_t hok
    have hsh := shapeB_t hsh
    obtain ⟨n, rfl⟩ := Int.eq_ofNat_of_zero_le (show 0 ≤ lv by omega)
    obtain ⟨m, rfl⟩ := Int.eq_ofNat_of_zero_le (show 0 ≤ co by omega)
    have hst : strN n m rows 2 = 1 := by
      have := not_or.1 (not_or.1 hc).2
      have h2 := this.2
      rw [Int.toNat_natCast] at h2
      exact Classical.not_not.1 h2
    have hs : S2 n m rows := S2.of (by omega) (by omega) (fun i hi => by have := (hrow _ (xat_mem hi)).1; omega)
      (fun i j hi hj => by
        have hr := hrow _ (xat_mem hi)
        have := hr.2 (nth (xat rows i) j) (nth_mem (by have := hr.1; omega))
        omega)
      (by unfold strN at hst; rwa [pu_2 (by omega)] at hst)
    have hM := hs.mols (by omega) (by omega) (by omega) (by omega)
    unfold molsM
    rw [if_pos h, Int.toNat_natCast, show ((m : Int) - 2).toNat = m - 2 by omega]
    exact ⟨hM, by simp [molX]; omega⟩
theorem molsM_no {lv co : Int} {rows : List (List Int)} (h : molsC lv co rows ≠ 0) : molsM lv co rows = [] := by unfold molsM; rw [if_neg h]

/-! ### the draw -/
def MakesArS (w : World) (e : Ending) (w' : World) : Prop := ∃ lv co v us R, e = .returned (av lv co v) ∧ RII w' v us R ∧ St w.heap.size w w' []
set_option maxHeartbeats 2000000 in
theorem DrawMolsOfArray_c (w : World) (cv : Value) (bs : List UInt8) (hb : RdB w cv bs) : Calls Try.prog 14 #[cv] w (MakesArS w) := by
  have hS0 := (St.refl w).newboxF 28 #[.int .i64 0, .int .i64 0, .slice none 0 0]
  go_enter Try.func14, Try.ntmps14
  go_wp2_with fail
  refine (l00FromS w _ cv bs _ hb hS0).mono ?_
  rintro e w1 ⟨g, rfl, h1⟩
  go_wp2_with fail
  refine (l16Draw_c w _ cv bs g _ _ hb h1 (by omega)).mono ?_
  rintro e w2 ⟨lv, co, v, us, R, rfl, hl, h2⟩
  have h3 := h2.perm (L' := box 28 w.heap.size [.int .i64 0, .int .i64 0, .slice none 0 0] :: own2 v us R) (by (try simp only [own2, List.cons_append, List.nil_append, List.append_nil]); classical exact List.perm_iff_count.2 (fun a => by simp only [List.cons_append, List.nil_append, List.append_nil, List.count_append, List.count_cons, List.count_nil] <;> omega))
  have b0 := h3.box 0 (e := 28) rfl 0 rfl
  have b1 := h3.box 0 (e := 28) rfl 1 rfl
  have b2 := h3.box 0 (e := 28) rfl 2 rfl
  have f0 := h3.bfree 0 (e := 28) rfl
  obtain ⟨ra, rc, hre⟩ := (h3.rd 1 (e := 52) (v := v) (us := us) rfl).sl.sh
  rw [hl] at hre
  subst hre
  have h7 := ((h3.bstore 0 (e := 28) rfl 0 (.int .i64 lv)).bstore 0 (e := 28) rfl 1 (.int .i64 co)).bstore 0 (e := 28) rfl 2 (.slice ra R.length rc)
  simp only [List.set_cons_zero, List.set_cons_succ] at h7
  have d0 := h7.box 0 (e := 28) rfl 0 rfl
  have d1 := h7.box 0 (e := 28) rfl 1 rfl
  have d2 := h7.box 0 (e := 28) rfl 2 rfl
  have hR7 := h7.riiS (v := .slice ra R.length rc) (us := us) (A := R) (List.sublist_cons_self _ _) hl
  clear h1 h2 h3
  unfold av
  go_wp2_with fail
  refine bodyPost_ret (v := .agg #[.int .i64 lv, .int .i64 co, .slice ra R.length rc]) (by simp [results, Try.results14, go_sem, d0, d1, d2]) rfl ?_
  exact ⟨lv, co, _, us, R, rfl, hR7, h7.st.sub (List.nil_sublist _)⟩

set_option maxHeartbeats 8000000 in
set_option maxRecDepth 100000 in
theorem FnArrays_law (w : World) (cv : Value) (bs : List UInt8) (hb : RdB w cv bs) :
    Calls Try.prog 3 #[cv] w (GivesB w true) := by
  by_cases hlong : 1048576 < bs.length
  · have hl' : decide (1048576 < bs.length) = true := by simpa using hlong
    go_enter Try.func3, Try.ntmps3
    go_wp2_with fail
    refine (b10Long_c w cv bs hb).mono ?_
    rw [hl']
    rintro e w1 ⟨rfl, rfl⟩
    go_wp2_with fail
    go_ret
    exact ⟨rfl, St.refl _⟩
  · have hl' : decide (1048576 < bs.length) = false := by simp; omega
    go_enter Try.func3, Try.ntmps3
    go_wp2_with fail
    refine (b10Long_c w cv bs hb).mono ?_
    rw [hl']
    rintro e w1 ⟨rfl, rfl⟩
    go_wp2_with fail
    refine (DrawArrayOfMols_c w cv bs hb).mono ?_
    rintro e w1 ⟨v, vs, uss, X, rfl, hX, hR, h1⟩
    have HA := Lib.hid (ArrayOfMols_c v vs uss X w1 hR hX)
    go_wp2_with fail
    refine HA.out.mono ?_
    clear HA
    rintro e w2 ⟨va, ua, rfl, hla, h2⟩
    have hR2 := hR.keep h2.below
    have h12 := h1.call0 h2.out
    have HB := Lib.hid (arr_back (X := X))
    have rA := h2.rii hla
    clear hR h1 h2
    generalize molAC X = C at *
    generalize molA X = A at *
    obtain ⟨lv, co, R⟩ := A
    dsimp only at *
    obtain ⟨a2, k2, hv2⟩ := rA.1.sl.sh
    rw [rA.2.1] at hv2
    subst hv2
    have hS := (St.refl w2).newboxF 28 #[.int .i64 lv, .int .i64 co, .slice a2 R.length k2]
    unfold av
    go_upto_if 24 with fail
    go_cut [] from 14 (fun w' => St w.heap.size w w' [])
    case first =>
      by_cases hC : C = 0
      · subst hC
        obtain ⟨hM, ok, si, sc, mc, mm⟩ := HB.out rfl
        have K1 := fun W h => Lib.hid (StrengthIndex_c lv co 2 (.slice a2 R.length k2) ua R W h)
        have K2 := fun W h => Lib.hid (ValidArray_c lv co (.slice a2 R.length k2) ua R W h)
        have K3 := fun W h => Lib.hid (MolsOfArray_c lv co (.slice a2 R.length k2) ua R W h)
        rw [si, sc] at K1
        rw [ok] at K2
        rw [mm, mc] at K3
        clear HB ok si sc mc mm
        have b0 := hS.bcell 0 rfl 0 rfl
        have b1 := hS.bcell 0 rfl 1 rfl
        have b2 := hS.bcell 0 rfl 2 rfl
        unfold av at K1 K2 K3
        go_wp2_with fail
        refine (K1 _ (hS.oldII rA)).out.mono ?_
        rintro e w3 ⟨rfl, h3⟩
        have hT3 := hS.call0 h3
        clear b0 b1 b2 h3
        have b0 := hT3.bcell 0 rfl 0 rfl
        have b1 := hT3.bcell 0 rfl 1 rfl
        have b2 := hT3.bcell 0 rfl 2 rfl
        go_wp2_with (go_at_call 11; refine (K2 _ (hT3.oldII rA)).out.mono ?_; rintro e w4 ⟨rfl, h4⟩; have hT4 := hT3.call0 h4; have c0 := hT4.bcell 0 rfl 0 rfl; have c1 := hT4.bcell 0 rfl 1 rfl; have c2 := hT4.bcell 0 rfl 2 rfl)
        refine (K3 _ (hT4.oldII rA)).out.mono ?_
        rintro e w5 ⟨vb, vsb, ussb, rfl, hfb, h5⟩
        have hT5 := Lib.hid (h12.call0 (hT4.call0 h5.out).out)
        have rB : RIII w5 vb vsb ussb X := St.riii (L2 := []) (by rw [List.append_nil]; exact h5) hfb
        have rX := (hR2.keep hT4.below).keep h5.below
        have hlb := rB.len
        have hlx := rX.len
        have hib := rB.ixe
        have hixx := rX.ixe
        have hle := Nat.le_trans hM.le (by decide : 10 ≤ 20)
        have KB := Lib.hid fun (s : SS w5.heap.size w5 []) (k : Nat) (hk : k < X.length) => (show Calls Try.prog 13 #[vat vsb k, vat vs k] s.w (GivesB s.w true) from by
          have := b10Lists_c _ _ _ _ _ _ s.w ((rB.keep s.st.below).row k hk) ((rX.keep s.st.below).row k hk)
          rw [decide_eq_true rfl] at this; exact this)
        have f2 : ((X.length : Int) != (X.length : Int)) = false := ne_f rfl
        clear hT4 h5 hT3 hS c0 c1 c2 b0 b1 b2 K1 K2 K3 hfb hM
        go_wp2_with fail
        go_loopw [10] (fun i wr => ∃ k : Nat, k ≤ X.length ∧ i = .int .i64 k ∧ St w5.heap.size w5 wr []) (fun i _ => X.length - (intOf i).toNat)
        case atStart => exact ⟨0, by omega, rfl, St.refl w5⟩
        case round =>
          obtain ⟨k, hk, rfl, hS⟩ := hrel
          by_cases hlt : k < X.length
          · have q1 := fun s : SS w5.heap.size w5 [] => (rB.keep s.st.below).cell k hlt
            have q2 := fun s : SS w5.heap.size w5 [] => (rX.keep s.st.below).cell k hlt
            have x1 := hib (k : Int) k rfl hlt
            have x2 := hixx (k : Int) k rfl hlt
            go_wp2_with fail
            have hne : Nonempty (SS _ _ _) := ⟨⟨_, hS⟩⟩
            refine wp_region_st (by kernel_rfl) (by kernel_rfl) hS ?_
            repeat (go_big_quiet_step ((go_at_call 13; exact st_quiet (KB.out _ _ hlt))))
            refine wpQuiet_nil ?_
            rintro _ ⟨s2, rfl⟩
            have hS6 := s2.st
            generalize s2.w = w6 at hS6 ⊢
            go_wp2_with fail
            go_roundw
            case rel => exact ⟨k + 1, by omega, by go_num, hS6⟩
            case measure => simp [intOf]; omega
          · go_wp2_with fail
            go_meet
            case rel => exact hT5.out.call0 hS
      · have f0 := eq_f hC
        go_wp2_with fail
        go_meet
        case rel => exact h12.call0 hS.out
    case rest =>
      clear h12 HB rA hS hR2
      go_wp2_with fail
      refine (DrawMolsOfArray_c _ cv bs (hb.keep hcut.below)).mono ?_
      rintro e w6 ⟨lv', co', vd, ud, R', rfl, rD, h6⟩
      have h66 := hcut.call0 h6
      obtain ⟨a2, k2, hv2⟩ := rD.1.sl.sh
      rw [rD.2.1] at hv2
      subst hv2
      have hT := (St.refl w6).newboxF 28 #[.int .i64 lv', .int .i64 co', .slice a2 R'.length k2]
      have K3 := fun W h => Lib.hid (MolsOfArray_c lv' co' (.slice a2 R'.length k2) ud R' W h)
      have HM := Lib.hid (arr_mols (lv := lv') (co := co') (rows := R'))
      have HN := Lib.hid (molsM_no (lv := lv') (co := co') (rows := R'))
      have b0 := hT.bcell 0 rfl 0 rfl
      have b1 := hT.bcell 0 rfl 1 rfl
      have b2 := hT.bcell 0 rfl 2 rfl
      generalize molsC lv' co' R' = C' at *
      generalize molsM lv' co' R' = M at *
      unfold av at K3 ⊢
      clear h6
      go_wp2_with fail
      refine (K3 _ (hT.oldII rD)).out.mono ?_
      rintro e w7 ⟨ve, vse, usse, rfl, hfe, h7⟩
      have hT7 := hT.call0 h7.out
      have rE : RIII w7 ve vse usse M := St.riii (L2 := []) (by rw [List.append_nil]; exact h7) hfe
      have hle := rE.len
      clear K3 b0 b1 b2 hT h7 hfe
      have b1 := hT7.bcell 0 rfl 1 rfl
      by_cases hC : C' = 0
      · subst hC
        obtain ⟨hM, hl⟩ := HM.out rfl
        have hM10 := hM.le
        obtain rfl : co' = (M.length : Int) + 2 := by omega
        have KV := Lib.hid (ValidMols_c ve vse usse M w7 rE hM.sml)
        rw [molB_yes hM] at KV
        have hw : IntKind.i64.wrap ((M.length : Int) + 2 - 2) = (M.length : Int) := by rw [show (M.length : Int) + 2 - 2 = (M.length : Int) by omega]; exact IntWalk.i64_in _ (by omega)
        clear HM HN hM hl
        go_wp2_with (go_at_call 15; refine KV.out.mono ?_; rintro e w8 ⟨rfl, h8⟩; have hT8 := hT7.call0 h8; have c1 := hT8.bcell 0 rfl 1 rfl)
        go_ret
        exact ⟨rfl, h66.call0 hT8.out⟩
      · have hN := HN.out hC
        have f0 := ne_t hC
        subst hN
        clear HM HN
        go_wp2_with fail
        go_ret
        exact ⟨rfl, h66.call0 hT7.out⟩
end Go.Proofs.Ytejncephbafcdaa
end

section
/- How arguments that come in read. How bytes that come in read. -/
namespace Go.Proofs.Ytejncephbafcdaa
set_option linter.unusedSimpArgs false
set_option linter.unusedVariables false
open Go.RowKit


/-- what came in as a slice of integers: nothing, or a row of numbers that fit -/
def IsRow (k : IntKind) (w : World) (a : Option Addr) (len cap : Nat) (zs : List Int) : Prop :=
  (a = none ∧ len = 0 ∧ cap = 0 ∧ zs = []) ∨
  ∃ x, a = some x ∧ len ≤ cap ∧ cap ≤ maxLen ∧ zs.length = cap ∧ (∀ i, i < zs.length → w.cell? (x.add i) = some (.int k (zs.getD i 0))) ∧ ∀ n ∈ zs, (Lit.int k n).wf = true

theorem IsRow.rd {k : IntKind} {w : World} {a : Option Addr} {len cap : Nat} {zs : List Int} (h : IsRow k w a len cap zs) : Rd w (.slice a len cap) ((zs.take len).map (Value.int k)) := by
  rcases h with ⟨rfl, rfl, rfl, rfl⟩ | ⟨x, rfl, h1, h2, h3, h4, h5⟩
  · exact Rd.nil w
  · have hl : ((zs.take len).map (Value.int k)).length = len := by simp; omega
    refine ⟨⟨some x, cap, by rw [hl], by omega, h2, .inr (by simp)⟩, ?_⟩
    intro i u hu
    have hi : i < len := by have := (List.getElem?_eq_some_iff.1 hu).1; omega
    have := h4 i (by omega)
    simp only [List.getElem?_map, List.getElem?_take, hi, if_true] at hu
    rw [List.getElem?_eq_getElem (by omega)] at hu
    simp at hu
    simp only [el]
    rw [this, ← hu]
    simp [List.getD, List.getElem?_eq_getElem (show i < zs.length by omega)]


theorem IsRow.rdB {w : World} {a : Option Addr} {len cap : Nat} {zs : List Int} (h : IsRow .u8 w a len cap zs) : ∃ bs, RdB w (.slice a len cap) bs := by
  refine ⟨(zs.take len).map fun n => UInt8.ofNat n.toNat, ?_⟩
  have h1 := h.rd
  have hw : ∀ n ∈ zs, 0 ≤ n ∧ n ≤ 255 := by
    rcases h with ⟨_, _, _, rfl⟩ | ⟨_, _, _, _, _, _, h5⟩
    · simp
    · intro n hn; have := h5 n hn; simpa [Lit.wf, IntKind.min, IntKind.max, IntKind.signed, IntKind.bits] using this
  unfold RdB bv
  rw [List.map_map]
  rw [List.map_congr_left (g := Value.int .u8)]
  · exact h1
  · intro n hn
    have := hw n (List.mem_of_mem_take hn)
    simp only [Function.comp]
    congr 1
    rw [UInt8.toNat_ofNat']
    omega

end Go.Proofs.Ytejncephbafcdaa
end

section
/- FnArrays holds: for every input the call returns true and leaves its arguments as they are. No condition. -/
namespace Go.Proofs.Ytejncephbafcdaa.fnArrays
set_option linter.unusedSimpArgs false
set_option linter.unusedVariables false
open Go.ChangeShapes Go.WideShapes Go.ChangeAt Go.RowKit
set_option linter.unusedVariables false

theorem own : ownKnob Try.prog.godebug = none := by kernel_rfl
theorem laidOut : laidOutB Try.prog = true := by kernel_rfl

set_option maxRecDepth 100000 in
theorem lifted (os : Os) (started : os.Started) (H : Type) (enc : TypeId × Value → H) :
    ReturnsInHanded {} Try.checked os 3 .any (Rows.fnArraysSpec.pre6 enc Try.prog Try.f3 Rows.fnArraysRow.domain false) (Rows.fnArraysSpec.post enc Try.prog Try.f3 false true false false) := by
  refine returnsInHanded_of_change (C := Try.checked) own started (by kernel_rfl) Try.func3
    (ChangeSpec.witness6 (enc := enc) (C := Try.checked) false ⟨#[], #[.slice none 0 0], []⟩ 8 (by kernel_rfl) (by kernel_rfl) (by kernel_rfl) (by kernel_rfl)) ?_
  intro W base args ds gs before hval0 hW hcnd _
  have hval : ∀ (j : Nat) t v, Try.f3.params[j]? = some t → args[j]? = some v → Value.okWide Try.prog W .any base t v := hval0
  have hW' := hW
  obtain ⟨p, q, hA0, hV, rfl, hfz, hnd⟩ := hW
  have hA : DataW.TrodAll enc Try.prog W 0 (fun _ => true) true Try.f3.params.toList args.toList ds p := hA0
  rw [Try.params3] at hA hval
  obtain ⟨v0, vs0, d0, ds0, p0, q0, hargs, rfl, rfl, h0, r0⟩ := trodAll_cons hA
  obtain ⟨rfl, rfl, rfl⟩ := trodAll_nil r0
  obtain rfl : args = #[v0] := by cases args; simp_all
  obtain ⟨rfl, rfl⟩ := trodVars_none hV
  obtain ⟨a0, len0, cap0, rfl⟩ := okWide_slice Try.underlying22 (hval 0 22 v0 rfl rfl)
  have k0 := h0
  have lt0 : ∀ x ∈ p0, x.block < W.heap.size := by obtain ⟨m, hm⟩ := k0; exact DataW.trod_lt m _ _ _ hm
  obtain ⟨bs0, rd0⟩ : ∃ bs, RdB W (.slice a0 len0 cap0) bs := by
    obtain ⟨fuel, hf⟩ := h0
    rcases open_ints Try.underlying22 Try.underlying5 (by kernel_rfl) hf with ⟨hcs, _⟩ | ⟨x, l, c, zs, hcs, _, hl, hm, hz, _, hcell, hwz⟩
    · simp [Value.cells] at hcs
      obtain ⟨rfl, rfl, rfl⟩ := hcs
      exact IsRow.rdB (zs := []) (.inl ⟨rfl, rfl, rfl, rfl⟩)
    · simp [Value.cells] at hcs
      obtain ⟨rfl, rfl, rfl⟩ := hcs
      exact IsRow.rdB (zs := zs) (.inr ⟨_, rfl, hl, hm, by simpa using hz, hcell, hwz⟩)
  clear hA0 hval0
  refine (FnArrays_law W _ bs0 rd0).mono fun e W' ⟨he, hst⟩ => ?_
  have bel := hst.below
  subst he
  exact ⟨_, rfl, _, _, _, [], _, [], hW', trodAll_mk1 (shut_bool Try.underlying4 _), (trodAll_cons_mk (Below.trod laidOut (by kernel_rfl) (of_decide_eq_true (by kernel_rfl)) k0 bel lt0) trodAll_mk0), rfl, bel.frame _, fun h => by cases h⟩

theorem over : Rows.fnArraysRow.holds Try.pinned (OpenSpec.ofChange Rows.fnArraysSpec) :=
  OpenClaim.holds_of_wide 3 Try.f3 rfl rfl rfl rfl rfl rfl rfl ⟨rfl, rfl, rfl, rfl, rfl⟩ rfl rfl rfl rfl rfl (by kernel_rfl) Try.func3 (by kernel_rfl)
    (of_decide_eq_true (by kernel_rfl)) (by unfold Func.isWrapper; first | (rw [if_pos (by decide +kernel)]; kernel_rfl) | (rw [if_neg (by decide +kernel)]; exact ⟨rfl, rfl⟩))
    (fun os started H enc _ => lifted os started H enc)

theorem proved : Rows.FnArraysSaid := over
#print axioms proved
end Go.Proofs.Ytejncephbafcdaa.fnArrays
end
