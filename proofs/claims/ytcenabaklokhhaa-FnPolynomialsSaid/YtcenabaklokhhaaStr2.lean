/- Walks: how often each list of values occurs in some columns. -/
import Derived.Test.YtcenabaklokhhaaStr1
import Derived.Test.YtcenabaklokhhaaMk
import Derived.Test.YtcenabaklokhhaaFull2
import Derived.Test.YtcenabaklokhhaaDer
import Derived.Deep.RegionHeld3
import Derived.Deep.DrawnRows
namespace Go.Proofs.Ytcenabaklokhhaa
set_option linter.unusedSimpArgs false
set_option linter.unusedVariables false
open Go.RowKit
attribute [local go_sem ↓] Go.wp_at_zero Go.wp_at_succ

theorem numC_snoc (lv : Int) {cols row : List Int} {j : Nat} (hj : j < cols.length) : numC lv (cols.take (j + 1)) row = numC lv (cols.take j) row * lv + nth row (nth cols j).toNat := by
  rw [take_nth hj]; simp [numC]; rfl
theorem pow16 {lv : Int} (h1 : 2 ≤ lv) (h2 : lv ≤ 16) : ∀ m : Nat, 1 ≤ lv ^ m ∧ lv ^ m ≤ 16 ^ m
  | 0 => by simp
  | m + 1 => by
    have := pow16 h1 h2 m
    rw [Int.pow_succ, Int.pow_succ]
    have a := Int.mul_le_mul this.2 h2 (by omega) (show (0 : Int) ≤ 16 ^ m by have := this; omega)
    have b := Int.mul_le_mul this.1 (show (1 : Int) ≤ lv by omega) (by omega) (by omega)
    omega
theorem pow16m {lv : Int} (h1 : 2 ≤ lv) (h2 : lv ≤ 16) {m : Nat} (h : m ≤ 8) : lv ^ m ≤ 4294967296 := by
  have h3 := (pow16 h1 h2 m).2
  have h4 : (16 : Int) ^ m ≤ 16 ^ 8 := by
    have : m = 0 ∨ m = 1 ∨ m = 2 ∨ m = 3 ∨ m = 4 ∨ m = 5 ∨ m = 6 ∨ m = 7 ∨ m = 8 := by omega
    rcases this with h | h | h | h | h | h | h | h | h <;> subst h <;> decide
  have : (16 : Int) ^ 8 = 4294967296 := by decide
  omega

/-- what the walks want of a row at column j -/
theorem numC_step {lv : Int} (l1 : 2 ≤ lv) (l2 : lv ≤ 16) {cols row : List Int} (hcl : cols.length ≤ 8) (hc : ∀ c ∈ cols, 0 ≤ c ∧ c < row.length) (he : ∀ x ∈ row, 0 ≤ x ∧ x ≤ lv - 1) {j : Nat} (hj : j < cols.length) :
    0 ≤ numC lv (cols.take j) row ∧ 0 ≤ numC lv (cols.take j) row * lv ∧ numC lv (cols.take j) row * lv ≤ 4294967296 ∧ 0 ≤ nth row (nth cols j).toNat ∧ nth row (nth cols j).toNat ≤ 15 := by
  have h0 : ∀ c ∈ cols, 0 ≤ pn row c.toNat ∧ pn row c.toNat ≤ lv - 1 := fun c hm => by
    have h1 := hc c hm
    have h2 : c.toNat < row.length := by omega
    exact he _ (show pn row c.toNat ∈ row from nth_mem h2)
  have h1 := numC_bd l1 (row := row) (cols := cols.take j) (fun c hm => h0 c (List.mem_of_mem_take hm))
  have h2 := numC_bd l1 (row := row) (cols := cols.take (j + 1)) (fun c hm => h0 c (List.mem_of_mem_take hm))
  have h3 := h0 _ (nth_mem hj)
  rw [numC_snoc lv hj] at h2
  have h4 := pow16m l1 l2 (m := (cols.take (j + 1)).length) (by rw [List.length_take]; omega)
  have h5 := Int.mul_nonneg h1.1 (show 0 ≤ lv by omega)
  have h6 : nth row (nth cols j).toNat = pn row (nth cols j).toNat := rfl
  omega
theorem numC_lt {lv : Int} (l1 : 2 ≤ lv) {cols row : List Int} (hc : ∀ c ∈ cols, 0 ≤ c ∧ c < row.length) (he : ∀ x ∈ row, 0 ≤ x ∧ x ≤ lv - 1) : 0 ≤ numC lv cols row ∧ numC lv cols row < lv ^ cols.length :=
  numC_bd l1 (fun c hm => he _ (show pn row c.toNat ∈ row from nth_mem (by have := hc c hm; omega)))

theorem cts_take_end (lv : Int) (cols : List Int) (rows : List (List Int)) (K : Nat) : cts lv cols (rows.take rows.length) K = cts lv cols rows K := by rw [List.take_length]

set_option maxHeartbeats 4000000 in
set_option maxRecDepth 100000 in
theorem evenly_c (lv co : Int) (v : Value) (us : List Value) (rows : List (List Int)) (vc : Value) (cols : List Int) (K : Nat) (w : World) (hv : RII w v us rows) (hc : RdI w vc cols)
    (l1 : 2 ≤ lv) (l2 : lv ≤ 16) (hcl : cols.length ≤ 8) (hrow : ∀ row ∈ rows, (row.length : Int) = co ∧ ∀ x ∈ row, 0 ≤ x ∧ x ≤ lv - 1) (hcol : ∀ c ∈ cols, 0 ≤ c ∧ c < co)
    (hK : pu lv 256 cols.length 1 = K) (hK2 : K ≤ 256) (hK3 : (K : Int) = lv ^ cols.length) (hlen : rows.length ≤ 256) :
    Calls Try.prog 216 #[av lv co v, vc] w (GivesI w (evB lv cols rows K)) := by
  have hS0 := (St.refl w).newboxF 47 #[.int .i64 lv, .int .i64 co, v]
  have Hrow := Lib.hid hrow
  have Hcol := Lib.hid hcol
  have HK3 := Lib.hid hK3
  have hpow : ∀ W, Hid (Calls Try.prog 135 #[.int .i64 lv, .int .i64 cols.length, .int .i64 256] W fun r w' => r = .returned (.int .i64 K) ∧ W = w') := fun W => by
    have := powerUpTo_c lv cols.length 256 W (by omega) (by omega) (by omega) (by omega) (by omega) (by omega)
    rw [Int.toNat_natCast, hK] at this
    exact this
  have hsz := fun W (h : RdI W vc cols) => Lib.hid (size_c vc cols W h)
  have hKp : 0 < K := by have := pow16 l1 l2 cols.length; omega
  clear hrow hcol hK hK3
  have hmk := run_mk K (by omega)
  have a0 := hS0.bcell 0 rfl 0 rfl
  have hlv := hv.len
  have hiv := hv.ix
  have hlc := hc.len
  have hic := hc.ix
  unfold av
  go_enter Try.func216, Try.ntmps216
  go_wp2_with fail
  go_region_held3 (fun w' => w'.cell? ⟨w.heap.size, 0, none⟩ = some (.int .i64 lv)) (go_keep)
    (first
    | (go_at_call 106; refine (hsz _ ((hS0.oldI hc).keep (St.refl _).drew.below)).out.mono ?_; rintro e w3 ⟨rfl, rfl⟩)
    | (go_at_call 135; refine (hpow _).out.mono ?_; rintro e w3 ⟨rfl, rfl⟩))
  clear hmk hsz hpow
  have hS1 := (hS0.made K (by omega)).drew
  simp only [List.cons_append, List.nil_append, World.size_alloc] at hS1
  rw [← cts_nil lv cols K] at hS1
  clear hS0 a0
  go_wp2_with fail
  generalize Value.slice (some ⟨w.heap.size + 1, 0, none⟩) K K = cv at hS1 ⊢
  go_loopw [7, 8, 10, 22, 28] (fun _ _ _ i _ wr => ∃ k : Nat, k ≤ rows.length ∧ i = .int .i64 k ∧ St w.heap.size w wr [box 47 w.heap.size [.int .i64 lv, .int .i64 co, v], row 2 cv (iv (cts lv cols (rows.take k) K))]) (fun _ _ _ i _ _ => rows.length - (intOf i).toNat)
  case atStart => exact ⟨0, by omega, rfl, hS1⟩
  case round =>
    obtain ⟨k, hk, rfl, hS⟩ := hrel
    by_cases hlt : k < rows.length
    · have hck := (hS.oldII hv).cell k hlt
      have hr0 := Lib.hid (hv.row k hlt)
      have Hr := Lib.hid (Hrow.out _ (xat_mem hlt))
      have Hc := Lib.hid (show ∀ c ∈ cols, 0 ≤ c ∧ c < (xat rows k).length from fun c hm => by have := Hcol.out c hm; have := Hr.out.1; omega)
      go_wp2_with fail
      go_loopw [8, 10, 28] (fun n _ j wx => ∃ q : Nat, q ≤ cols.length ∧ j = .int .i64 q ∧ n = .int .i64 (numC lv (cols.take q) (xat rows k)) ∧ St w.heap.size w wx [box 47 w.heap.size [.int .i64 lv, .int .i64 co, v], row 2 cv (iv (cts lv cols (rows.take k) K))]) (fun _ _ j _ => cols.length - (intOf j).toNat)
      case atStart => exact ⟨0, by omega, rfl, rfl, hS⟩
      case round =>
        obtain ⟨q, hq, rfl, rfl, hS⟩ := hrel
        by_cases hlq : q < cols.length
        · have hcq := (hS.oldI hc).cell q hlq
          obtain ⟨m0, m1, m2, m3, m4⟩ := numC_step l1 l2 hcl Hc.out Hr.out.2 hlq
          have hcc := Hc.out _ (nth_mem hlq)
          obtain ⟨p0, p1⟩ := hcc
          have hx1 := hr0.out.ixe (nth cols q) (nth cols q).toNat (by omega) (by omega)
          have hq1 := fun s : SS w.heap.size w [box 47 w.heap.size [.int .i64 lv, .int .i64 co, v], row 2 cv (iv (cts lv cols (rows.take k) K))] => s.st.bcell 0 rfl 0 rfl
          have hq2 := fun s : SS w.heap.size w [box 47 w.heap.size [.int .i64 lv, .int .i64 co, v], row 2 cv (iv (cts lv cols (rows.take k) K))] => (s.st.oldI hr0.out).cell (nth cols q).toNat (by omega)
          have hst := Lib.hid (numC_snoc lv (row := xat rows k) hlq)
          go_wp2_with fail
          have hne : Nonempty (SS _ _ _) := ⟨⟨_, hS⟩⟩
          refine wp_region_st (by kernel_rfl) (by kernel_rfl) hS ?_
          repeat (go_big_quiet_step (fail))
          refine wpQuiet_nil ?_
          rintro _ ⟨s2, rfl⟩
          have hS2 := s2.st
          generalize s2.w = w2 at hS2 ⊢
          go_wp2_with fail
          go_roundw
          case rel => exact ⟨q + 1, by omega, by go_num, by rw [hst.out], hS2⟩
          case measure => simp [intOf]; omega
        · obtain rfl : q = cols.length := by omega
          rw [List.take_length]
          have hn := numC_lt l1 Hc.out Hr.out.2
          rw [← HK3.out] at hn
          obtain ⟨p, hp⟩ := Int.eq_ofNat_of_zero_le hn.1
          have Hp := Lib.hid hp
          rw [hp] at hn ⊢
          have hpK : p < K := by omega
          clear hn hp
          have hx1 := (hS.rdI 1 rfl).ixe (p : Int) p rfl (by rw [cts_len]; exact hpK)
          have hcp := (hS.rdI 1 rfl).cell p (by rw [cts_len]; exact hpK)
          have hb := cntR_bd lv cols (rows.take k) p
          have e0 : nth (cts lv cols (rows.take k) K) p = cntR lv cols (rows.take k) p := pn_cts hpK
          rw [← e0, List.length_take] at hb
          obtain ⟨b0, b1⟩ := hb
          have hset := Lib.hid (cts_snoc (rows := rows.take k) Hp.out hpK)
          have HL := Lib.hid (show p < (cts lv cols (rows.take k) K).length by rw [cts_len]; exact hpK)
          have b2 : nth (cts lv cols (rows.take k) K) p ≤ 256 := by omega
          clear e0 b1
          go_wp2_with (refine stoI hS 1 rfl p HL.out rfl (.tmp 47) (.tmp 46) rfl rfl _ rfl ?_; intro w3 hS3)
          go_roundw
          case rel => exact ⟨k + 1, by omega, by go_num, by rw [take_xat hlt, hset.out]; exact hS3⟩
          case measure => simp [intOf]; omega
    · obtain rfl : k = rows.length := by omega
      rw [List.take_length] at hS
      have hln := (hS.rdI 1 rfl).len
      rw [cts_len] at hln
      have hr3 := hS.rdI 1 rfl
      have c0 := hr3.cell 0 (by rw [cts_len]; exact hKp)
      have x0 := hr3.ixe 0 0 rfl (by rw [cts_len]; exact hKp)
      have p0 : nth (cts lv cols rows K) 0 = cntR lv cols rows 0 := pn_cts hKp
      rw [p0] at c0
      have hix3 := hr3.ix
      rw [cts_len] at hix3
      clear p0
      go_wp2_with fail
      go_loopw [12, 51] (fun _ i wx => ∃ j : Nat, j ≤ K ∧ i = .int .i64 j ∧ Hid (∀ m, m < j → cntR lv cols rows m = cntR lv cols rows 0) ∧ wx = wr) (fun _ i _ => K - (intOf i).toNat)
      case atStart => exact ⟨0, by omega, rfl, fun m hm => by omega, rfl⟩
      case round =>
        obtain ⟨j, hj, rfl, hI, rfl⟩ := hrel
        by_cases hlj : j < K
        · have cj := hr3.cell j (by rw [cts_len]; exact hlj)
          rw [show nth (cts lv cols rows K) j = cntR lv cols rows j from pn_cts hlj] at cj
          by_cases he : cntR lv cols rows j = cntR lv cols rows 0
          · have f1 := ne_f he
            have HE := Lib.hid he; clear he
            go_wp2_with fail
            go_roundw
            case rel => exact ⟨j + 1, by omega, by go_num, fun m hm => by
              by_cases e : m = j
              · subst e; exact HE.out
              · exact hI.out m (by omega), by first | rfl | trivial⟩
            case measure => simp [intOf]; omega
          · have f1 := ne_t he
            have HE := Lib.hid he; clear he
            go_wp2_with fail
            go_ret
            exact ⟨ret_i64 (by rw [evB, if_neg]; intro h; exact HE.out (h j hlj)), hS.out⟩
        · obtain rfl : j = K := by omega
          go_wp2_with fail
          go_ret
          exact ⟨ret_i64 (by rw [evB, if_pos hI.out]), hS.out⟩
end Go.Proofs.Ytcenabaklokhhaa
