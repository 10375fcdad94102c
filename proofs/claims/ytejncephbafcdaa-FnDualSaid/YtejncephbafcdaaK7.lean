/- The texts of this claim, run 7: DsE DsF DsH DsI DsK Cpt DsL DsM PDg PDi PSy PSz. -/
import Derived.Test.YtejncephbafcdaaK1
import Derived.Test.YtejncephbafcdaaK2
import Derived.Test.YtejncephbafcdaaK3
import Derived.Test.YtejncephbafcdaaK4
import Derived.Test.YtejncephbafcdaaK5
import Derived.Test.YtejncephbafcdaaK6
import Derived.Deep.RegionHeld3
import Derived.Deep.DrawnRows
import Derived.Shelf.SlicesG.CompactI
import Derived.Sort.OwnSortedInts
section
/- Walks: designs that the reference draws. -/
namespace Go.Proofs.Ytejncephbafcdaa
set_option linter.unusedSimpArgs false
set_option linter.unusedVariables false
open Go.RowKit
attribute [local go_sem ↓] Go.wp_at_zero Go.wp_at_succ

theorem putL_inc : ∀ {xs : List Int} {l n x : Int}, incB l n xs = true → l < x → x < n → incB l n (putL xs x) = true
  | [], l, n, x, _, h1, h2 => by rw [putL, incB, if_neg (by omega)]; rfl
  | a :: r, l, n, x, h, h1, h2 => by
    rw [incB] at h
    by_cases hc : a ≤ l ∨ n ≤ a
    · rw [if_pos hc] at h; cases h
    · rw [if_neg hc] at h
      rw [putL]
      by_cases h3 : x < a
      · rw [if_pos h3, incB, if_neg (by omega), incB, if_neg (by omega)]; exact h
      · rw [if_neg h3]
        by_cases h4 : a = x
        · rw [if_pos h4, incB, if_neg hc]; exact h
        · rw [if_neg h4, incB, if_neg hc]; exact putL_inc h (by omega) h2
theorem putL_pos (xs : List Int) (x : Int) : 0 < (putL xs x).length := by
  cases xs with
  | nil => simp [putL]
  | cons a r => rw [putL]; split <;> (try split) <;> simp
def Blk (P : Int) (r : List Int) : Prop := 0 < r.length ∧ r.length ≤ 10 ∧ incB (-1) P r = true
/-- blocks of its own -/
def MakesBl (w0 : World) (cv : Value) (g K : Nat) (L : List Ent) (P : Int) (e : Ending) (w' : World) : Prop := ∃ (v : Value) (us : List Value) (R : List (List Int)), e = .returned v ∧ us.length = R.length ∧ R.length ≤ 8 ∧ (∀ r ∈ R, Blk P r) ∧ Src w0 w' cv g K (own2 v us R ++ L)
set_option maxHeartbeats 8000000 in
set_option maxRecDepth 100000 in
theorem l10DrawBlocks_c (w0 w : World) (cv : Value) (bs : List UInt8) (g K : Nat) (L : List Ent) (P : Int) (hb : RdB w0 cv bs) (h : Src w0 w cv g K L) (hK : K < 100000000) (hP : 1 ≤ P ∧ P ≤ 9) :
    Calls Try.prog 116 #[.pointer (some ⟨g, 0, none⟩), .int .i64 P] w (MakesBl w0 cv g (K + 110) L P) := by
  have h0 := h.empII
  clear h
  go_enter Try.func116, Try.ntmps116
  go_wp2_with fail
  refine (pick_c w0 _ cv bs g _ _ 9 hb h0 (by omega)).mono ?_
  rintro e w1 ⟨n, n0, n1, rfl, h1⟩
  obtain ⟨c, rfl⟩ := Int.eq_ofNat_of_zero_le n0
  have hc : c ≤ 8 := by omega
  clear h0 n0 n1
  go_wp2_with fail
  go_loopw [5, 6, 7, 8] (fun o i _ _ wr => ∃ (m : Nat) (uo : List Value) (R : List (List Int)), m ≤ 8 ∧ i = .int .i64 m ∧ Hid (R.length + m ≤ 8 ∧ uo.length = R.length ∧ ∀ r ∈ R, Blk P r) ∧ Src w0 wr cv g (K + 100 - 12 * m) (own2 o uo R ++ L)) (fun _ i _ _ _ => (intOf i).toNat)
  case atStart => exact ⟨c, [], [], hc, rfl, ⟨by simpa using hc, rfl, fun r hr => by cases hr⟩, h1.mono (by omega)⟩
  case round =>
    clear h1
    obtain ⟨m, uo, R, hm, rfl, hI, hS⟩ := hrel
    by_cases hm0 : 0 < m
    · go_wp2_with fail
      refine (pick_c w0 _ cv bs g _ _ P hb hS (by omega)).mono ?_
      rintro e w2 ⟨y, y0, y1, rfl, h2⟩
      have h3 : Src w0 (w2.alloc (.cells #[.int .i64 y] 2)) cv g _ (row 2 (.slice (some ⟨w2.heap.size, 0, none⟩) 1 1) (iv [y]) :: (own2 u5 uo R ++ L)) := h2.lit [y] (by simp)
      have hy0 : incB (-1) P [y] = true := by rw [incB, if_neg (by omega)]; rfl
      have Hy0 := Lib.hid hy0
      clear hS h2 hy0 y0 y1
      go_wp2_with fail
      refine (pick_c w0 _ cv bs g _ _ 4 hb h3 (by omega)).mono ?_
      rintro e w3 ⟨k, k0, k1, rfl, h4⟩
      obtain ⟨kk, rfl⟩ := Int.eq_ofNat_of_zero_le k0
      have hkk : kk ≤ 3 := by omega
      clear h3 k0 k1
      go_wp2_with fail
      go_loopw [7, 8] (fun q i wx => ∃ (t : Nat) (xs : List Int), t ≤ 3 ∧ i = .int .i64 t ∧ Hid (0 < xs.length ∧ xs.length + t ≤ 4 ∧ incB (-1) P xs = true) ∧ Src w0 wx cv g (K + 100 - 12 * m + 10 - 2 * t) (row 2 q (iv xs) :: (own2 u5 uo R ++ L))) (fun _ i _ => (intOf i).toNat)
      case atStart => exact ⟨kk, [y], hkk, rfl, ⟨by simp, by simp; omega, Hy0.out⟩, h4.mono (by omega)⟩
      case round =>
        clear h4
        obtain ⟨t, xs, ht, rfl, hx, hS⟩ := hrel
        by_cases ht0 : 0 < t
        · go_wp2_with fail
          refine (pick_c w0 _ cv bs g _ _ P hb hS (by omega)).mono ?_
          rintro e w4 ⟨z, z0, z1, rfl, h5⟩
          have hrx := h5.rdI 0 rfl
          have hxl := hx.out.2.1
          have hnew := Lib.hid (And.intro (putL_pos xs z) (And.intro (putL_len xs z) (putL_inc (x := z) hx.out.2.2 (by omega) (by omega))))
          clear hS z0 z1
          go_wp2_with fail
          refine (l00PutX_c u7 xs z _ hrx (by omega)).mono ?_
          rintro e w5 ⟨v5, rfl, h6⟩
          have h7 := ((h5.call h6).sub (L' := (own2 u5 uo R ++ L) ++ [row 2 v5 (iv (putL xs z))]) (List.sublist_cons_self _ _)).perm (L' := row 2 v5 (iv (putL xs z)) :: (own2 u5 uo R ++ L)) List.perm_append_comm
          clear h5 h6 hrx hxl
          go_wp2_with fail
          go_roundw
          case rel => exact ⟨t - 1, putL xs z, by omega, by go_num, ⟨hnew.out.1, by have := hnew.out.2.1; have := hx.out.2.1; omega, hnew.out.2.2⟩, h7.mono (by omega)⟩
          case measure => simp [intOf]; omega
        · obtain ⟨pp, ss, p0, p1, hT⟩ := hS
          have HP := Lib.hid (And.intro p0 p1)
          obtain ⟨la, lc, hle⟩ := (hT.rdI 1 rfl).sl.sh
          rw [iv_len] at hle
          subst hle
          have hul := Lib.hid (show uo.length < 4294967296 by rw [hI.out.2.1]; have := hI.out.1; omega)
          clear p0 p1
          go_wp2_with (at_builtin; refine appII hT 2 rfl hul.out rfl _ _ rfl rfl _ rfl rfl ?_; intro v8 w8 hS8)
          simp only [List.set_cons_succ] at hS8
          go_roundw
          case rel =>
            refine ⟨m - 1, uo ++ [.slice la xs.length lc], R ++ [xs], by omega, by go_num, ⟨by simp; have := hI.out.1; omega, by simp [hI.out.2.1], fun r hr => ?_⟩, pp, ss, HP.out.1, by have := HP.out.2; omega, ?_⟩
            · rcases List.mem_append.1 hr with hr | hr
              · exact hI.out.2.2 r hr
              · obtain rfl := List.mem_singleton.1 hr
                exact ⟨hx.out.1, by have := hx.out.2.1; omega, hx.out.2.2⟩
            · rw [own2, rowsI_app hI.out.2.1]
              have h9 : St w0.heap.size w0 w8 (box 101 g [cv, .int .i64 pp, .int .u64 ss] :: row 2 (.slice la xs.length lc) (iv xs) :: row 52 v8 (uo ++ [.slice la xs.length lc]) :: (rowsI uo R ++ L)) := hS8
              exact h9.perm (by (try simp only [own2, List.cons_append, List.nil_append, List.append_nil]); classical exact List.perm_iff_count.2 (fun a => by simp only [List.cons_append, List.nil_append, List.append_nil, List.count_append, List.count_cons, List.count_nil] <;> omega))
          case measure => simp [intOf]; omega
    · obtain rfl : m = 0 := by omega
      go_wp2_with fail
      go_ret
      exact ⟨_, uo, R, rfl, hI.out.2.1, by have := hI.out.1; omega, hI.out.2.2, hS.mono (by omega)⟩
/-- a design of its own -/
def MakesDd (w0 : World) (cv : Value) (g K : Nat) (L : List Ent) (e : Ending) (w' : World) : Prop := ∃ (P : Nat) (A : List (List Int)) (v : Value) (us : List Value), dOk P A = true ∧ e = .returned (dv P v) ∧ us.length = A.length ∧ Src w0 w' cv g K (own2 v us A ++ L)
set_option maxHeartbeats 8000000 in
set_option maxRecDepth 100000 in
theorem l10Draw_c (w0 w : World) (cv : Value) (bs : List UInt8) (g K : Nat) (L : List Ent) (hb : RdB w0 cv bs) (h : Src w0 w cv g K L) (hK : K < 10000000) :
    Calls Try.prog 65 #[.pointer (some ⟨g, 0, none⟩)] w (MakesDd w0 cv g (K + 200) L) := by
  have h0 := h.newboxF 41 #[.int .i64 0, .slice none 0 0]
  clear h
  go_enter Try.func65, Try.ntmps65
  go_wp2_with fail
  refine (one_c w0 _ cv bs g _ _ 2 hb h0 (by omega)).mono ?_
  rintro e w1 ⟨b, rfl, h1⟩
  clear h0
  cases b
  · go_wp2_with fail
    refine (pick_c w0 _ cv bs g _ _ 9 hb h1 (by omega)).mono ?_
    rintro e w2 ⟨x, x0, x1, rfl, h2⟩
    obtain ⟨P, hP⟩ : ∃ P : Nat, 1 + x = P := ⟨(1 + x).toNat, by omega⟩
    have hP1 : 1 ≤ (P : Int) ∧ (P : Int) ≤ 9 := by omega
    clear h1
    go_wp2_with fail
    try rw [hP]
    clear hP x0 x1
    refine (l10DrawBlocks_c w0 _ cv bs g _ _ P hb h2 (by omega) hP1).mono ?_
    rintro e w3 ⟨v3, us3, R, rfl, hl3, hR8, hblk, h3⟩
    have hrr := h3.riiS (v := v3) (us := us3) (A := R) (List.sublist_append_left _ _) hl3
    have HS := Lib.hid (l10Sort_c v3 us3 R w3 hrr (by omega) (fun xs hx => by have := (hblk xs hx).2.1; omega))
    have HO := Lib.hid (DOk.ok (DOk.mk' (P := P) (A := R) (by omega) (by omega) (by omega) (fun b hb' => ⟨(hblk b hb').1, (hblk b hb').2.2⟩)))
    clear h2 hrr hblk hR8
    go_wp2_with fail
    refine HS.out.mono ?_
    clear HS
    rintro e w5 ⟨v5, us5, rfl, hl5, h5⟩
    obtain ⟨ua, uc, hv5⟩ := (h5.rd 0 (e := 52) (v := v5) (us := us5) rfl).sl.sh
    rw [hl5] at hv5
    generalize srtL R = S at *
    subst hv5
    have h6 := ((h3.call h5).perm (L' := box 41 w.heap.size [.int .i64 0, .slice none 0 0] :: ((own2 (.slice ua S.length uc) us5 S ++ L) ++ own2 v3 us3 R)) (by (try simp only [own2, List.cons_append, List.nil_append, List.append_nil]); classical exact List.perm_iff_count.2 (fun a => by simp only [List.cons_append, List.nil_append, List.append_nil, List.count_append, List.count_cons, List.count_nil] <;> omega))).sub (L' := box 41 w.heap.size [.int .i64 0, .slice none 0 0] :: (own2 (.slice ua S.length uc) us5 S ++ L)) ((List.sublist_append_left _ _).cons_cons _)
    have c0 := h6.box 0 (e := 41) rfl 0 rfl
    have c1 := h6.box 0 (e := 41) rfl 1 rfl
    have f0 := h6.bfree 0 (e := 41) rfl
    have h7 := (h6.bstore 0 (e := 41) rfl 0 (.int .i64 P)).bstore 0 (e := 41) rfl 1 (.slice ua S.length uc)
    simp only [List.set_cons_zero, List.set_cons_succ] at h7
    have d0 := h7.box 0 (e := 41) rfl 0 rfl
    have d1 := h7.box 0 (e := 41) rfl 1 rfl
    clear h3 h5 h6
    go_wp2_with fail
    refine bodyPost_ret (v := .agg #[.int .i64 P, .slice ua S.length uc]) (by simp [results, Try.results65, go_sem, d0, d1]) rfl ?_
    exact ⟨P, S, _, us5, HO.out, rfl, hl5, (h7.sub (List.sublist_cons_self _ _)).mono (by omega)⟩
  · go_wp2_with fail
    refine (l10Known_c w0 _ cv bs g _ _ hb h1 (by omega)).mono ?_
    rintro e w2 ⟨P, A, v, us, hmem, rfl, hl, h2⟩
    have HO := Lib.hid (show dOk P A = true by
      have := kn_chk _ hmem
      unfold chkC chkC1 at this
      simp only [Bool.and_eq_true] at this
      exact this.1.1.1.1.1.1)
    have h3 := h2.perm (L' := box 41 w.heap.size [.int .i64 0, .slice none 0 0] :: (own2 v us A ++ L)) (by (try simp only [own2, List.cons_append, List.nil_append, List.append_nil]); classical exact List.perm_iff_count.2 (fun a => by simp only [List.cons_append, List.nil_append, List.append_nil, List.count_append, List.count_cons, List.count_nil] <;> omega))
    obtain ⟨ra, rc, hre⟩ := (h3.rd 1 (e := 52) (v := v) (us := us) rfl).sl.sh
    rw [hl] at hre
    subst hre
    have c0 := h3.box 0 (e := 41) rfl 0 rfl
    have c1 := h3.box 0 (e := 41) rfl 1 rfl
    have f0 := h3.bfree 0 (e := 41) rfl
    have h7 := (h3.bstore 0 (e := 41) rfl 0 (.int .i64 P)).bstore 0 (e := 41) rfl 1 (.slice ra A.length rc)
    simp only [List.set_cons_zero, List.set_cons_succ] at h7
    have d0 := h7.box 0 (e := 41) rfl 0 rfl
    have d1 := h7.box 0 (e := 41) rfl 1 rfl
    clear h1 h2 h3 hmem
    unfold dv
    go_wp2_with fail
    refine bodyPost_ret (v := .agg #[.int .i64 P, .slice ra A.length rc]) (by simp [results, Try.results65, go_sem, d0, d1]) rfl ?_
    exact ⟨P, A, _, us, HO.out, rfl, hl, (h7.sub (List.sublist_cons_self _ _)).mono (by omega)⟩
def MakesVd (w : World) (e : Ending) (w' : World) : Prop := ∃ (P : Nat) (A : List (List Int)) (v : Value) (us : List Value), dOk P A = true ∧ e = .returned (dv P v) ∧ RII w' v us A ∧ St w.heap.size w w' []
set_option maxHeartbeats 2000000 in
theorem V8Design_c (w : World) (cv : Value) (bs : List UInt8) (hb : RdB w cv bs) : Calls Try.prog 25 #[cv] w (MakesVd w) := by
  have hS0 := (St.refl w).newboxF 41 #[.int .i64 0, .slice none 0 0]
  go_enter Try.func25, Try.ntmps25
  go_wp2_with fail
  refine (l00FromS w _ cv bs _ hb hS0).mono ?_
  rintro e w1 ⟨g, rfl, h1⟩
  go_wp2_with fail
  refine (l10Draw_c w _ cv bs g _ _ hb h1 (by omega)).mono ?_
  rintro e w2 ⟨P, A, v, us, hm, rfl, hl, h2⟩
  have Hm := Lib.hid hm
  have h3 := h2.perm (L' := box 41 w.heap.size [.int .i64 0, .slice none 0 0] :: own2 v us A) (by (try simp only [own2, List.cons_append, List.nil_append, List.append_nil]); classical exact List.perm_iff_count.2 (fun a => by simp only [List.cons_append, List.nil_append, List.append_nil, List.count_append, List.count_cons, List.count_nil] <;> omega))
  have b0 := h3.box 0 (e := 41) rfl 0 rfl
  have b1 := h3.box 0 (e := 41) rfl 1 rfl
  have f0 := h3.bfree 0 (e := 41) rfl
  obtain ⟨ra, rc, hre⟩ := (h3.rd 1 (e := 52) (v := v) (us := us) rfl).sl.sh
  rw [hl] at hre
  subst hre
  have h7 := (h3.bstore 0 (e := 41) rfl 0 (.int .i64 P)).bstore 0 (e := 41) rfl 1 (.slice ra A.length rc)
  simp only [List.set_cons_zero, List.set_cons_succ] at h7
  have d0 := h7.box 0 (e := 41) rfl 0 rfl
  have d1 := h7.box 0 (e := 41) rfl 1 rfl
  have hR7 := h7.riiS (v := .slice ra A.length rc) (us := us) (A := A) (List.sublist_cons_self _ _) hl
  clear h1 h2 h3 hm
  unfold dv
  go_wp2_with fail
  refine bodyPost_ret (v := .agg #[.int .i64 P, .slice ra A.length rc]) (by simp [results, Try.results25, go_sem, d0, d1]) rfl ?_
  exact ⟨P, A, _, us, Hm.out, rfl, hR7, h7.st.sub (List.nil_sublist _)⟩
end Go.Proofs.Ytejncephbafcdaa
end

section
/- Walks: incidence matrices; sorted designs; numbers of pairs and replications, with codes. -/
namespace Go.Proofs.Ytejncephbafcdaa
set_option linter.unusedSimpArgs false
set_option linter.unusedVariables false
open Go.RowKit
attribute [local go_sem ↓] Go.wp_at_zero Go.wp_at_succ

theorem xat_setA {M : List (List Int)} {j t : Nat} {r : List Int} (h : j < M.length) : xat (M.set j r) t = if j = t then r else xat M t := by
  unfold xat
  rw [List.getD_eq_getElem?_getD, List.getElem?_set]
  split
  · rename_i e; subst e; simp [h]
  · simp
theorem nth_setA {r : List Int} {j t : Nat} {x : Int} (h : j < r.length) : nth (r.set j x) t = if j = t then x else nth r t := by
  unfold nth
  rw [List.getD_eq_getElem?_getD, List.getElem?_set]
  split
  · rename_i e; subst e; simp [h]
  · simp
/-- the incidence matrix, row by row -/
def incR (A : List (List Int)) (x : Nat) : List Int := (List.range A.length).map fun c => if (x : Int) ∈ xat A c then 1 else 0
def incM (P : Nat) (A : List (List Int)) : List (List Int) := (List.range P).map (incR A)
def incC (A : List (List Int)) (k j x c : Nat) : Prop := (c < k ∧ (x : Int) ∈ xat A c) ∨ (c = k ∧ (x : Int) ∈ (xat A k).take j)
open Classical in
structure IncS (P : Nat) (A : List (List Int)) (k j : Nat) (M : List (List Int)) : Prop where
  len : M.length = P
  row : ∀ x, x < P → (xat M x).length = A.length
  at' : ∀ x c, x < P → c < A.length → nth (xat M x) c = if incC A k j x c then 1 else 0
theorem IncS.start (P : Nat) (A : List (List Int)) : IncS P A 0 0 (List.replicate P (List.replicate A.length 0)) := by
  have hx : ∀ x, x < P → xat (List.replicate P (List.replicate A.length (0 : Int))) x = List.replicate A.length 0 := fun x hx => by rw [xat_eq (by simpa using hx)]; simp
  refine ⟨by simp, fun x h => by rw [hx x h]; simp, fun x c h hc => ?_⟩
  rw [hx x h, if_neg, nth_eq (by simpa using hc)]
  · simp
  · rintro (⟨h1, _⟩ | ⟨_, h1⟩)
    · omega
    · simp at h1
theorem IncS.step {P : Nat} {A : List (List Int)} {k j x : Nat} {M : List (List Int)} (h : IncS P A k j M) (hk : k < A.length) (hj : j < (xat A k).length) (hx : nth (xat A k) j = x) (hxP : x < P) : IncS P A k (j + 1) (M.set x ((xat M x).set k 1)) := by
  have hm := fun y : Nat => mem_take1 hj (y : Int)
  refine ⟨by rw [List.length_set]; exact h.len, fun y hy => ?_, fun y c hy hc => ?_⟩
  · rw [xat_setA (by rw [h.len]; exact hxP)]
    split
    · rw [List.length_set]; exact h.row x hxP
    · exact h.row y hy
  · have hiff : incC A k (j + 1) y c ↔ incC A k j y c ∨ (c = k ∧ y = x) := by
      unfold incC
      rw [hm y, hx]
      constructor
      · rintro (h1 | ⟨h1, h2 | h2⟩)
        · exact .inl (.inl h1)
        · exact .inl (.inr ⟨h1, h2⟩)
        · exact .inr ⟨h1, by omega⟩
      · rintro ((h1 | ⟨h1, h2⟩) | ⟨h1, h2⟩)
        · exact .inl h1
        · exact .inr ⟨h1, .inl h2⟩
        · exact .inr ⟨h1, .inr (by rw [h2])⟩
    rw [xat_setA (by rw [h.len]; exact hxP)]
    by_cases e : x = y
    · subst e
      rw [if_pos rfl, nth_setA (by rw [h.row x hxP]; exact hk)]
      by_cases e2 : k = c
      · subst e2; rw [if_pos rfl, if_pos (hiff.2 (.inr ⟨rfl, rfl⟩))]
      · rw [if_neg e2, h.at' x c hxP hc]
        by_cases hcc : incC A k j x c
        · rw [if_pos hcc, if_pos (hiff.2 (.inl hcc))]
        · rw [if_neg hcc, if_neg (fun h' => (hiff.1 h').elim hcc (fun h2 => e2 h2.1.symm))]
    · rw [if_neg e, h.at' y c hy hc]
      by_cases hcc : incC A k j y c
      · rw [if_pos hcc, if_pos (hiff.2 (.inl hcc))]
      · rw [if_neg hcc, if_neg (fun h' => (hiff.1 h').elim hcc (fun h2 => e h2.2.symm))]
theorem IncS.next {P : Nat} {A : List (List Int)} {k : Nat} {M : List (List Int)} (h : IncS P A k (xat A k).length M) : IncS P A (k + 1) 0 M := by
  refine ⟨h.len, h.row, fun x c hx hc => ?_⟩
  have hiff : incC A k (xat A k).length x c ↔ incC A (k + 1) 0 x c := by
    unfold incC
    rw [List.take_length]
    constructor
    · rintro (⟨h1, h2⟩ | ⟨h1, h2⟩)
      · exact .inl ⟨by omega, h2⟩
      · exact .inl ⟨by omega, by rw [h1]; exact h2⟩
    · rintro (⟨h1, h2⟩ | ⟨_, h2⟩)
      · by_cases e : c = k
        · exact .inr ⟨e, by rw [← e]; exact h2⟩
        · exact .inl ⟨by omega, h2⟩
      · simp at h2
  rw [h.at' x c hx hc]
  by_cases hcc : incC A k (xat A k).length x c
  · rw [if_pos hcc, if_pos (hiff.1 hcc)]
  · rw [if_neg hcc, if_neg (fun h' => hcc (hiff.2 h'))]
theorem IncS.fin {P : Nat} {A : List (List Int)} {M : List (List Int)} (h : IncS P A A.length 0 M) : M = incM P A := by
  refine List.ext_getElem (by rw [h.len]; simp [incM]) fun x h1 h2 => ?_
  have hx : x < P := by rw [← h.len]; exact h1
  have hr := h.row x hx
  rw [← xat_eq h1]
  refine List.ext_getElem (by rw [hr]; simp [incM, incR]) fun c h3 h4 => ?_
  have hc : c < A.length := by rw [← hr]; exact h3
  rw [← nth_eq h3, h.at' x c hx hc]
  simp only [incM, incR, List.getElem_map, List.getElem_range]
  have hiff : incC A A.length 0 x c ↔ (x : Int) ∈ xat A c := by
    unfold incC
    constructor
    · rintro (⟨_, h1⟩ | ⟨h1, _⟩)
      · exact h1
      · omega
    · exact fun h1 => .inl ⟨hc, h1⟩
  by_cases hcc : (x : Int) ∈ xat A c
  · rw [if_pos hcc, if_pos (hiff.2 hcc)]
  · rw [if_neg hcc, if_neg (fun h' => hcc (hiff.1 h'))]
end Go.Proofs.Ytejncephbafcdaa
end

section
/- Walks: the design of an incidence matrix. -/
namespace Go.Proofs.Ytejncephbafcdaa
set_option linter.unusedSimpArgs false
set_option linter.unusedVariables false
open Go.RowKit
attribute [local go_sem ↓] Go.wp_at_zero Go.wp_at_succ

/-- the points below y -/
def blw (b : List Int) (y : Nat) : List Int := b.filter fun z => decide (z < (y : Int))
theorem blw_step {b : List Int} (hp : b.Pairwise (· < ·)) (x : Nat) : blw b (x + 1) = blw b x ++ if (x : Int) ∈ b then [(x : Int)] else [] := by
  induction b with
  | nil => rfl
  | cons a r ih =>
    obtain ⟨h1, h2⟩ := List.pairwise_cons.1 hp
    have ih := ih h2
    unfold blw at ih ⊢
    rcases Int.lt_trichotomy a (x : Int) with h | h | h
    · rw [List.filter_cons_of_pos (by simp; omega), List.filter_cons_of_pos (by simp; omega), ih]
      have : ((x : Int) ∈ a :: r) ↔ (x : Int) ∈ r := by
        rw [List.mem_cons]; constructor
        · rintro (e | e)
          · omega
          · exact e
        · exact .inr
      simp only [this, List.cons_append]
    · have hnr : (x : Int) ∉ r := fun hm => by have := h1 _ hm; omega
      have e0 : r.filter (fun z => decide (z < (x : Int))) = [] := by
        rw [List.filter_eq_nil_iff]; intro z hz; have := h1 z hz; simp; omega
      rw [if_neg hnr, e0] at ih
      rw [List.filter_cons_of_pos (by simp; omega), List.filter_cons_of_neg (by simp; omega), e0, ih, if_pos (by rw [h]; exact List.mem_cons_self), h]; rfl
    · have hnr : (x : Int) ∉ a :: r := fun hm => by
        rcases List.mem_cons.1 hm with e | hm
        · omega
        · have := h1 _ hm; omega
      have e0 : ∀ y : Int, y ≤ a → r.filter (fun z => decide (z < y)) = [] := fun y hy => by
        rw [List.filter_eq_nil_iff]; intro z hz; have := h1 z hz; simp; omega
      rw [List.filter_cons_of_neg (by simp; omega), List.filter_cons_of_neg (by simp; omega), e0 _ (by omega), e0 _ (by omega), if_neg hnr]; rfl
theorem blw_all {P : Nat} {b : List Int} (h : Inc P b) : blw b P = b := by
  unfold blw
  rw [List.filter_eq_self]
  intro z hz
  obtain ⟨j, hj, rfl⟩ := List.getElem_of_mem hz
  have := (h.bd j hj).2
  rw [nth_eq hj] at this
  simpa using this
theorem blw_0 {P : Nat} {b : List Int} (h : Inc P b) : blw b 0 = [] := by
  unfold blw
  rw [List.filter_eq_nil_iff]
  intro z hz
  obtain ⟨j, hj, rfl⟩ := List.getElem_of_mem hz
  have := (h.bd j hj).1
  rw [nth_eq hj] at this
  simp; omega
theorem blw_len (b : List Int) (y : Nat) : (blw b y).length ≤ b.length := List.length_filter_le _ _
/-- the blocks behind x rows and k places -/
structure BlS (A : List (List Int)) (x k : Nat) (M : List (List Int)) : Prop where
  len : M.length = A.length
  at' : ∀ c, c < A.length → xat M c = blw (xat A c) (x + if c < k then 1 else 0)
theorem incB_pw2 {P : Nat} {b : List Int} (h : Inc P b) : b.Pairwise (· < ·) := by
  rw [List.pairwise_iff_getElem]
  intro i j hi hj hij
  have := h.lt i j hij hj
  rwa [nth_eq hi, nth_eq hj] at this
theorem BlS.start {P : Nat} {A : List (List Int)} (hD : DOk P A) : BlS A 0 0 (List.replicate A.length []) :=
  ⟨by simp, fun c hc => by rw [xat_eq (by simpa using hc)]; simp [blw_0 (hD.inc' hc)]⟩
theorem BlS.no {P : Nat} {A : List (List Int)} {x k : Nat} {M : List (List Int)} (h : BlS A x k M) (hD : DOk P A) (hk : k < A.length) (hx : (x : Int) ∉ xat A k) : BlS A x (k + 1) M :=
  ⟨h.len, fun c hc => by
    rw [h.at' c hc]
    by_cases e : k = c
    · subst e
      rw [if_neg (by omega), if_pos (by omega), Nat.add_zero, blw_step (incB_pw2 (hD.inc' hk)), if_neg hx, List.append_nil]
    · congr 1
      by_cases h2 : c < k
      · rw [if_pos h2, if_pos (by omega)]
      · rw [if_neg h2, if_neg (by omega)]⟩
theorem BlS.next {A : List (List Int)} {x : Nat} {M : List (List Int)} (h : BlS A x A.length M) : BlS A (x + 1) 0 M :=
  ⟨h.len, fun c hc => by rw [h.at' c hc, if_pos hc, if_neg (by omega)]⟩
theorem BlS.fin {P : Nat} {A : List (List Int)} {M : List (List Int)} (h : BlS A P 0 M) (hD : DOk P A) : M = A := by
  refine List.ext_getElem h.len fun c h1 h2 => ?_
  have := h.at' c h2
  rw [if_neg (by omega), Nat.add_zero, blw_all (hD.inc' h2), xat_eq h1, xat_eq h2] at this
  exact this
theorem BlS.small {P : Nat} {A : List (List Int)} {x k : Nat} {M : List (List Int)} (h : BlS A x k M) (hD : DOk P A) {c : Nat} (hc : c < A.length) : (xat M c).length ≤ 32 := by
  rw [h.at' c hc]
  have := blw_len (xat A c) (x + if c < k then 1 else 0)
  have := (hD.inc' hc).len
  have := hD.le
  omega
/-- the nil slices of a made slice, as rows of nothing -/
theorem St.nilsII {B : Nat} {w0 w : World} {L : List Ent} (h : St B w0 w L) : ∀ n, St B w0 w (L ++ rowsI (nils n) (List.replicate n []))
  | 0 => by simpa [rowsI, nils] using h
  | n + 1 => by
    have := (h.nilsII n).nilrow4 2
    have e : rowsI (nils (n + 1)) (List.replicate (n + 1) []) = rowsI (nils n) (List.replicate n []) ++ [row 2 (.slice none 0 0) []] := by
      unfold nils
      rw [List.replicate_succ', List.replicate_succ', rowsI_app (by simp)]; rfl
    rw [e, ← List.append_assoc]; exact this
theorem rowsI_putA {us : List Value} {R : List (List Int)} (hl : us.length = R.length) {j : Nat} (hj : j < R.length) (u : Value) (r : List Int) : (rowsI us R).set j (row 2 u (iv r)) = rowsI (us.set j u) (R.set j r) := by
  unfold rowsI
  apply List.ext_getElem?
  intro k
  rw [List.getElem?_set]
  simp only [List.getElem?_zipWith, List.getElem?_set, List.length_zipWith]
  by_cases e : j = k
  · subst e
    rw [if_pos rfl, if_pos (by omega), if_pos rfl, if_pos (by omega), if_pos rfl, if_pos hj]
  · rw [if_neg e, if_neg e, if_neg e]
end Go.Proofs.Ytejncephbafcdaa
end

section
/- Walks: numbers of points and pairs, incidence matrices, sorted designs and sums of designs, with codes. -/
namespace Go.Proofs.Ytejncephbafcdaa
set_option linter.unusedSimpArgs false
set_option linter.unusedVariables false
open Go.RowKit
attribute [local go_sem ↓] Go.wp_at_zero Go.wp_at_succ
def MakesIC' (w : World) (xs : List Int) (c : Int) (e : Ending) (w' : World) : Prop := ∃ v, e = .returned (.tuple #[v, .int .i64 c]) ∧ St w.heap.size w w' [row 2 v (iv xs)]
theorem ReplicationsOf_c (P : Nat) (v : Value) (us : List Value) (A : List (List Int)) (w : World) (hv : RII w v us A) (hok : dOk P A = true) :
    Calls Try.prog 28 #[dv P v] w (MakesIC' w (repL P A) 0) := by
  obtain ⟨a, c, hsh⟩ := hv.1.sl.sh
  rw [hv.2.1] at hsh
  subst hsh
  have hS0 := (St.refl w).newboxF 41 #[.int .i64 P, .slice a A.length c]
  have b0 := hS0.bcell 0 rfl 0 rfl
  have b1 := hS0.bcell 0 rfl 1 rfl
  have K1 := Lib.hid (ValidDesign_c P (.slice a A.length c) us A _ (hS0.oldII hv))
  rw [hok] at K1
  have K2 := fun W h => Lib.hid (replicationsOf_c P (.slice a A.length c) us A W h (dOk_t hok))
  unfold dv at K1 K2 ⊢
  go_enter Try.func28, Try.ntmps28
  go_wp2_with fail
  refine K1.out.mono ?_
  clear K1 b0 b1
  rintro e w2 ⟨rfl, h2⟩
  have hS2 := hS0.call0 h2
  have b0 := hS2.bcell 0 rfl 0 rfl
  have b1 := hS2.bcell 0 rfl 1 rfl
  clear hS0 h2
  go_wp2_with fail
  refine (K2 _ (hS2.oldII hv)).out.mono ?_
  rintro e w3 ⟨v3, rfl, h3⟩
  have hS3 := hS2.call h3
  go_wp2_with fail
  refine bodyPost_ret (v := .tuple #[v3, .int .i64 0]) (by simp [results, Try.results28, go_sem]) rfl ?_
  exact ⟨v3, rfl, hS3.sub (List.sublist_append_right _ _)⟩
end Go.Proofs.Ytejncephbafcdaa
end

section
/- Walks: dual designs of the program. -/
namespace Go.Proofs.Ytejncephbafcdaa
set_option linter.unusedSimpArgs false
set_option linter.unusedVariables false
open Go.RowKit
attribute [local go_sem ↓] Go.wp_at_zero Go.wp_at_succ

/-- the numbers of the first k blocks that hold the point x -/
def dua (A : List (List Int)) (x : Nat) : Nat → List Int
  | 0 => []
  | k + 1 => dua A x k ++ if (x : Int) ∈ xat A k then [(k : Int)] else []
def duaL (P : Nat) (A : List (List Int)) : List (List Int) := (List.range P).map fun x => dua A x A.length
theorem dua_len (A : List (List Int)) (x : Nat) : ∀ k, (dua A x k).length ≤ k
  | 0 => Nat.le_refl _
  | k + 1 => by
    rw [dua, List.length_append]
    have := dua_len A x k
    split <;> simp <;> omega
theorem dua_mem (A : List (List Int)) (x : Nat) (y : Int) : ∀ k, y ∈ dua A x k ↔ ∃ j : Nat, j < k ∧ y = j ∧ (x : Int) ∈ xat A j
  | 0 => by simp [dua]
  | k + 1 => by
    rw [dua, List.mem_append, dua_mem A x y k]
    constructor
    · rintro (⟨j, hj, e, h⟩ | h)
      · exact ⟨j, by omega, e, h⟩
      · split at h
        · rename_i hx
          exact ⟨k, by omega, List.mem_singleton.1 h, hx⟩
        · cases h
    · rintro ⟨j, hj, e, h⟩
      by_cases hjk : j = k
      · subst hjk; exact .inr (by rw [if_pos h]; exact List.mem_singleton.2 e)
      · exact .inl ⟨j, by omega, e, h⟩
theorem dua_inc (A : List (List Int)) (x : Nat) {k n : Nat} (hk : k ≤ n) : incB (-1) n (dua A x k) = true := by
  refine incB_of (fun y hy => by obtain ⟨j, hj, rfl, _⟩ := (dua_mem A x y k).1 hy; omega) ?_
  clear hk
  induction k with
  | zero => exact List.Pairwise.nil
  | succ k ih =>
    rw [dua]
    refine List.pairwise_append.2 ⟨ih, ?_, fun a ha b hb => ?_⟩
    · split <;> simp
    · split at hb
      · obtain rfl := List.mem_singleton.1 hb
        obtain ⟨j, hj, rfl, _⟩ := (dua_mem A x a k).1 ha; omega
      · cases hb
def duP (A : List (List Int)) (k j x : Nat) : List Int := dua A x k ++ if (x : Int) ∈ (xat A k).take j then [(k : Int)] else []
structure DuS (P : Nat) (A : List (List Int)) (k j : Nat) (M : List (List Int)) : Prop where
  len : M.length = P
  at' : ∀ x, x < P → xat M x = duP A k j x
theorem DuS.start (P : Nat) (A : List (List Int)) : DuS P A 0 0 (List.replicate P []) :=
  ⟨by simp, fun x hx => by rw [xat_eq (by simpa using hx)]; simp [duP, dua]⟩
theorem DuS.step {P : Nat} {A : List (List Int)} {k j x : Nat} {M : List (List Int)} (h : DuS P A k j M) (hi : Inc P (xat A k)) (hj : j < (xat A k).length) (hx : nth (xat A k) j = x) (hxP : x < P) : DuS P A k (j + 1) (M.set x (xat M x ++ [(k : Int)])) := by
  refine ⟨by rw [List.length_set]; exact h.len, fun y hy => ?_⟩
  have hm := mem_take1 hj (y : Int)
  rw [hx] at hm
  rw [xat_setA (by rw [h.len]; exact hxP)]
  by_cases e : x = y
  · subst e
    have hf := hi.fresh hj
    rw [hx] at hf
    rw [if_pos rfl, h.at' x hxP]
    unfold duP
    rw [if_neg hf, if_pos (hm.2 (.inr rfl)), List.append_nil]
  · rw [if_neg e, h.at' y hy]
    unfold duP
    by_cases h1 : (y : Int) ∈ (xat A k).take j
    · rw [if_pos h1, if_pos (hm.2 (.inl h1))]
    · rw [if_neg h1, if_neg (fun h2 => (hm.1 h2).elim h1 (fun h3 => e (by omega)))]
theorem DuS.next {P : Nat} {A : List (List Int)} {k : Nat} {M : List (List Int)} (h : DuS P A k (xat A k).length M) : DuS P A (k + 1) 0 M :=
  ⟨h.len, fun x hx => by rw [h.at' x hx]; unfold duP; rw [List.take_length, dua]; simp⟩
theorem DuS.fin {P : Nat} {A : List (List Int)} {M : List (List Int)} (h : DuS P A A.length 0 M) : M = duaL P A := by
  refine List.ext_getElem (by rw [h.len]; simp [duaL]) fun x h1 h2 => ?_
  have hx : x < P := by rw [← h.len]; exact h1
  rw [← xat_eq h1, h.at' x hx]
  simp [duaL, duP]
theorem DuS.small {P : Nat} {A : List (List Int)} {k j x : Nat} {M : List (List Int)} (h : DuS P A k j M) (hx : x < P) : (xat M x).length ≤ k + 1 := by
  rw [h.at' x hx]
  unfold duP
  have := dua_len A x k
  rw [List.length_append]
  split <;> simp <;> omega
theorem dual1_c (v : Value) (xs : List Int) (w : World) (hv : RdI w v xs) : Calls Try.prog 67 #[v] w (GivesB w (decide (xs.length = 0))) := by
  have hln := hv.len
  by_cases h : xs.length = 0
  · have f := eq_t (show (xs.length : Int) = 0 by omega)
    have H := Lib.hid (decide_eq_true h)
    clear h
    go_enter Try.func67, Try.ntmps67
    go_wp2_with fail
    go_ret
    exact ⟨by rw [H.out]; rfl, St.refl w⟩
  · have f := eq_f (show ¬ (xs.length : Int) = 0 by omega)
    have H := Lib.hid (decide_eq_false h)
    clear h
    go_enter Try.func67, Try.ntmps67
    go_wp2_with fail
    go_ret
    exact ⟨by rw [H.out]; rfl, St.refl w⟩
/-- what DualDesign answers: no error exactly if there are not too many blocks and every point is in one -/
def duE (P : Nat) (A : List (List Int)) : Bool := (duaL P A).any fun b => decide (b.length = 0)
def duC (P : Nat) (A : List (List Int)) : Int := if inB A.length 1 32 = true then (if duE P A = true then 6 else 0) else 2
def MakesDu (w : World) (P : Nat) (A : List (List Int)) (e : Ending) (w' : World) : Prop := (duC P A ≠ 0 ∧ MakesD w 0 [] (duC P A) e w') ∨ (duC P A = 0 ∧ MakesD w A.length (srtL (duaL P A)) 0 e w')
set_option maxHeartbeats 8000000 in
set_option maxRecDepth 100000 in
theorem DualDesign_c (P : Nat) (v : Value) (us : List Value) (A : List (List Int)) (w : World) (hv : RII w v us A) (hok : dOk P A = true) :
    Calls Try.prog 26 #[dv P v] w (MakesDu w P A) := by
  obtain ⟨a, c, hsh⟩ := hv.1.sl.sh
  rw [hv.2.1] at hsh
  subst hsh
  have hD := dOk_t hok
  have HD := Lib.hid hD
  have hP1 := hD.pos
  have hP := hD.le
  have hDl := hD.len
  have hS0 := ((St.refl w).newboxF 41 #[.int .i64 P, .slice a A.length c]).newboxF 41 #[.int .i64 0, .slice none 0 0]
  simp only [World.size_alloc] at hS0
  have b0 := hS0.bcell 1 rfl 0 rfl
  have b1 := hS0.bcell 1 rfl 1 rfl
  have K1 := Lib.hid (ValidDesign_c P (.slice a A.length c) us A _ (hS0.oldII hv))
  rw [hok] at K1
  have KS := fun W h => Lib.hid (szII_c (.slice a A.length c) us A W h)
  have hix := hv.ix
  unfold dv at K1 ⊢
  clear hD hok
  go_enter Try.func26, Try.ntmps26
  go_wp2_with fail
  refine K1.out.mono ?_
  clear K1 b0 b1
  rintro e w2 ⟨rfl, h2⟩
  have hS2 := hS0.call0 h2
  have b0 := hS2.bcell 1 rfl 0 rfl
  have b1 := hS2.bcell 1 rfl 1 rfl
  clear hS0 h2
  have KW := fun W => Lib.hid (within_c (A.length : Int) 1 32 W)
  cases hin : inB (A.length : Int) 1 32
  · rw [hin] at KW
    have HC := Lib.hid (show duC P A = 2 by rw [duC, if_neg (by rw [hin]; decide)])
    clear hin
    have r0 := hS2.bcell 0 rfl 0 rfl
    have r1 := hS2.bcell 0 rfl 1 rfl
    have f0 := hS2.bfree 0 rfl
    have h6 := (hS2.bstore 0 rfl 0 (.int .i64 0)).bstore 0 rfl 1 (.slice none 0 0)
    have d0 := h6.bcell 0 rfl 0 rfl
    have d1 := h6.bcell 0 rfl 1 rfl
    go_wp2_with (first | (go_at_call 41; refine (KS _ (hS2.oldII hv)).out.mono ?_; rintro e w1 ⟨rfl, rfl⟩) | (go_at_call 43; refine (KW _).out.mono ?_; rintro e w1 ⟨rfl, rfl⟩))
    refine bodyPost_ret (v := .tuple #[.agg #[.int .i64 0, .slice none 0 0], .int .i64 2]) (by first | simp [results, Try.results26, go_sem, d0, d1] | simp [results, Try.results26, go_sem, r0, r1]) rfl ?_
    refine .inl ⟨by rw [HC.out]; decide, ?_⟩
    rw [HC.out]
    first | exact MakesD.no h6 | exact MakesD.no hS2
  · rw [hin] at KW
    have hA1 : 1 ≤ (A.length : Int) ∧ (A.length : Int) ≤ 32 := by simpa [inB] using hin
    have HC := Lib.hid (show duC P A = if duE P A = true then 6 else 0 by rw [duC, if_pos hin])
    clear hin
    go_wp2_with (first | (go_at_call 41; refine (KS _ (hS2.oldII hv)).out.mono ?_; rintro e w1 ⟨rfl, rfl⟩) | (go_at_call 43; refine (KW _).out.mono ?_; rintro e w1 ⟨rfl, rfl⟩) | (at_make; refine mkII hS2 rfl _ _ rfl _ _ P (by go_num) (by go_num) (by omega) ?_; intro v1 w1 hS1; have b1 := hS1.bcell 1 rfl 1 rfl))
    have hi1 := run_ix_sl (P := Try.prog) (hS1.rd 2 rfl).sl 26 Try.und_iss Try.size_is
    simp only [nils, List.length_replicate] at hi1
    have hS3 : St w.heap.size w w1 (own2 v1 (nils P) (List.replicate P []) ++ [box 41 (w.heap.size + 1) [.int .i64 0, .slice none 0 0], box 41 w.heap.size [.int .i64 P, .slice a A.length c]]) :=
      (hS1.nilsII P).perm (by
        simp only [own2, List.cons_append, List.nil_append]
        generalize rowsI (nils P) (List.replicate P []) = R0
        exact (by (try simp only [own2, List.cons_append, List.nil_append, List.append_nil]); classical exact List.perm_iff_count.2 (fun a => by simp only [List.cons_append, List.nil_append, List.append_nil, List.count_append, List.count_cons, List.count_nil] <;> omega)))
    have HB0 := Lib.hid (DuS.start P A)
    have hnl : (nils P).length = P := by simp [nils]
    generalize nils P = us0 at *
    generalize List.replicate P ([] : List Int) = M0 at *
    have Hu0 := Lib.hid hnl
    clear hS1 hS2 b0 b1 hnl KW
    have b1 := hS3.perm (L' := [box 41 (w.heap.size + 1) [.int .i64 0, .slice none 0 0], box 41 w.heap.size [.int .i64 P, .slice a A.length c]] ++ own2 v1 us0 M0) List.perm_append_comm
    have b1 := b1.bcell 1 rfl 1 rfl
    go_wp2_with fail
    go_loopw [5, 6, 8, 25] (fun _ _ _ i wr => ∃ (k : Nat) (ws : List Value) (M : List (List Int)), k ≤ A.length ∧ i = .int .i64 k ∧ Hid (ws.length = P ∧ DuS P A k 0 M) ∧ St w.heap.size w wr (own2 v1 ws M ++ [box 41 (w.heap.size + 1) [.int .i64 0, .slice none 0 0], box 41 w.heap.size [.int .i64 P, .slice a A.length c]])) (fun _ _ _ i _ => A.length - (intOf i).toNat)
    case atStart => exact ⟨0, us0, M0, by omega, rfl, ⟨Hu0.out, HB0.out⟩, hS3⟩
    case round =>
      clear hS3 HB0 b1
      obtain ⟨k, ws, M, hk, rfl, hI, hS⟩ := hrel
      by_cases hkt : k < A.length
      · have ck := (hS.oldII hv).cell k hkt
        have hrk := (hS.oldII hv).row k hkt
        have hlk := hrk.len
        have hik := hrk.ix
        have HI := Lib.hid (HD.out.inc' hkt)
        have hl32 := HI.out.len
        go_wp2_with fail
        go_loopw [8, 32] (fun _ m wr => ∃ (j : Nat) (ws : List Value) (M : List (List Int)), j ≤ (xat A k).length ∧ m = .int .i64 j ∧ Hid (ws.length = P ∧ DuS P A k j M) ∧ St w.heap.size w wr (own2 v1 ws M ++ [box 41 (w.heap.size + 1) [.int .i64 0, .slice none 0 0], box 41 w.heap.size [.int .i64 P, .slice a A.length c]])) (fun _ m _ => (xat A k).length - (intOf m).toNat)
        case atStart => exact ⟨0, ws, M, by omega, rfl, hI, hS⟩
        case round =>
          clear hS ck hrk hI
          obtain ⟨j, ws, M, hj, rfl, hI, hS⟩ := hrel
          by_cases hjt : j < (xat A k).length
          · have cj := ((hS.oldII hv).row k hkt).cell j hjt
            obtain ⟨x, hx, hxP⟩ := HI.out.nat hjt
            rw [hx] at cj
            have HY := Lib.hid (hI.out.2.step HI.out hjt hx hxP)
            have hlS : ws.length = M.length := by rw [hI.out.1, hI.out.2.len]
            have hat := hS.at_row hlS (j := x) (by rw [hI.out.2.len]; exact hxP)
            have cb := (rii2 hS hlS).cell x (by rw [hI.out.2.len]; exact hxP)
            have xk := hi1 .i64 (x : Int) (by omega) (by omega)
            rw [Int.toNat_natCast] at xk
            have hsm := hI.out.2.small hxP
            have hml := Lib.hid (show (xat M x).length < 4294967296 by omega)
            have hkw := Lib.hid (show x < ws.length by rw [hI.out.1]; exact hxP)
            have hkM := Lib.hid (show x < M.length by rw [hI.out.2.len]; exact hxP)
            have Hls := Lib.hid hlS
            have Hat := Lib.hid hat
            clear hx hlS hat hsm
            go_wp2_with (first | (refine stoII hS3 0 rfl x hkw.out rfl (.tmp 45) (.tmp 44) rfl rfl vr hsr.out.cells hsr.out.one rfl ?_; intro w4 hS4) | (at_builtin; refine appI hS (x + 1) Hat.out hml.out rfl _ _ rfl rfl _ rfl ?_; intro vr w3 hS3; have hsr := Lib.hid ((hS3.rdI (x + 1) (e := 2) (v := vr) (xs := xat M x ++ [(k : Int)]) (by rw [List.getElem?_set_self (by simp [own2, rowsI_len Hls.out]; have := hkM.out; omega)])).sl); rw [show (own2 v1 ws M ++ [box 41 (w.heap.size + 1) [.int .i64 0, .slice none 0 0], box 41 w.heap.size [.int .i64 P, .slice a A.length c]]).set (x + 1) (row 2 vr (iv (xat M x ++ [(k : Int)]))) = row 52 v1 ws :: ((rowsI ws M ++ [box 41 (w.heap.size + 1) [.int .i64 0, .slice none 0 0], box 41 w.heap.size [.int .i64 P, .slice a A.length c]]).set x (row 2 vr (iv (xat M x ++ [(k : Int)])))) from rfl] at hS3))
            simp only [List.set_cons_zero] at hS4
            rw [List.set_append_left _ _ (by rw [rowsI_len Hls.out]; exact hkM.out), rowsI_putA Hls.out hkM.out] at hS4
            go_roundw
            case rel => exact ⟨j + 1, ws.set x vr, M.set x (xat M x ++ [(k : Int)]), by omega, by go_num, ⟨by rw [List.length_set]; exact hI.out.1, HY.out⟩, hS4⟩
            case measure => simp [intOf]; omega
          · obtain rfl : j = (xat A k).length := by omega
            have HN := Lib.hid hI.out.2.next
            go_wp2_with fail
            go_roundw
            case rel => exact ⟨k + 1, ws, M, by omega, by go_num, ⟨hI.out.1, HN.out⟩, hS⟩
            case measure => simp [intOf]; omega
      · obtain rfl : k = A.length := by omega
        have hfin := hI.out.2.fin
        subst hfin
        have hdl : (duaL P A).length = P := by simp [duaL]
        have hlS : ws.length = (duaL P A).length := by rw [hI.out.1, hdl]
        have hR := rii2 hS hlS
        have hcf := callFunc_go Try.func67 (by kernel_rfl) (by kernel_rfl)
        have KF := Lib.hid (show Calls Try.prog 66 #[v1, .func (.func 67) #[] #[]] wr (GivesB wr (duE P A)) from
          ContainsFuncR_c 67 #[] (fun b => decide (b.length = 0)) v1 ws (duaL P A) wr hR hcf (fun j W hW hj => dual1_c _ _ W ((hW.oldII hR).row j hj)))
        have hB := hS.perm (L' := box 41 (w.heap.size + 1) [.int .i64 0, .slice none 0 0] :: box 41 w.heap.size [.int .i64 P, .slice a A.length c] :: own2 v1 ws (duaL P A)) (by (try simp only [own2, List.cons_append, List.nil_append, List.append_nil]); classical exact List.perm_iff_count.2 (fun a => by simp only [List.cons_append, List.nil_append, List.append_nil, List.count_append, List.count_cons, List.count_nil] <;> omega))
        have KSo := fun W h => Lib.hid (sorted_c A.length v1 ws (duaL P A) W h (by rw [hdl]; omega) (fun xs hx => by
          obtain ⟨y, _, rfl⟩ := List.mem_map.1 hx
          have := dua_len A y A.length; omega))
        clear hcf hS
        go_wp2_with fail
        cases hE : duE P A
        · rw [hE] at KF HC
          refine KF.out.mono ?_
          clear KF
          rintro e w5 ⟨rfl, h5⟩
          have hB5 := hB.call0 h5
          have b1 := hB5.bcell 1 rfl 1 rfl
          clear hB h5 hE
          go_wp2_with (go_at_call 41; refine (KS _ (hB5.oldII hv)).out.mono ?_; rintro e w6 ⟨rfl, rfl⟩)
          refine (KSo _ ((hB5.sub ((List.sublist_cons_self _ _).trans (List.sublist_cons_self _ _))).rii hlS)).out.mono ?_
          rintro e w7 ⟨v7, us7, rfl, hl7, h7⟩
          obtain ⟨ua, uc, hv7⟩ := (h7.rd 0 (e := 52) (v := v7) (us := us7) rfl).sl.sh
          rw [hl7, srtL_len, hdl] at hv7
          subst hv7
          have hC := (hB5.call h7)
          have c0 := hC.bcell 0 rfl 0 rfl
          have c1 := hC.bcell 0 rfl 1 rfl
          have f0 := hC.bfree 0 rfl
          have h6 := (hC.bstore 0 rfl 0 (.int .i64 A.length)).bstore 0 rfl 1 (.slice ua P uc)
          have d0 := h6.bcell 0 rfl 0 rfl
          have d1 := h6.bcell 0 rfl 1 rfl
          clear hC h7 hB5 b1
          unfold dv
          go_wp2_with fail
          refine bodyPost_ret (v := .tuple #[.agg #[.int .i64 A.length, .slice ua P uc], .int .i64 0]) (by simp [results, Try.results26, go_sem, d0, d1]) rfl ?_
          exact .inr ⟨by rw [HC.out]; rfl, _, us7, rfl, hl7, h6.sub (L' := own2 (.slice ua P uc) us7 (srtL (duaL P A))) (((List.sublist_append_right (own2 v1 ws (duaL P A)) _).trans (List.sublist_cons_self _ _)).trans (List.sublist_cons_self _ _))⟩
        · rw [hE] at KF HC
          refine KF.out.mono ?_
          clear KF
          rintro e w5 ⟨rfl, h5⟩
          have hB5 := hB.call0 h5
          have r0 := hB5.bcell 0 rfl 0 rfl
          have r1 := hB5.bcell 0 rfl 1 rfl
          have f0 := hB5.bfree 0 rfl
          have h6 := (hB5.bstore 0 rfl 0 (.int .i64 0)).bstore 0 rfl 1 (.slice none 0 0)
          have d0 := h6.bcell 0 rfl 0 rfl
          have d1 := h6.bcell 0 rfl 1 rfl
          clear hB h5 hE
          go_wp2_with fail
          refine bodyPost_ret (v := .tuple #[.agg #[.int .i64 0, .slice none 0 0], .int .i64 6]) (by first | simp [results, Try.results26, go_sem, d0, d1] | simp [results, Try.results26, go_sem, r0, r1]) rfl ?_
          have hc6 : duC P A = 6 := by rw [HC.out]; rfl
          refine .inl ⟨by rw [hc6]; decide, ?_⟩
          rw [hc6]
          first | exact MakesD.no h6 | exact MakesD.no hB5
end Go.Proofs.Ytejncephbafcdaa
end

section
/- slices.Compact at []int64: a row that a call owns, without repetitions. -/
namespace Go.Proofs.Ytejncephbafcdaa
set_option linter.unusedSimpArgs false
set_option linter.unusedVariables false
open Go.RowKit

def Try.mCompact_ren : Go.Shelf.Ren := ⟨fun | 43 => 74 | n => n, fun | 22 => 52 | 23 => 2 | 3 => 3 | 4 => 4 | 0 => 0 | n => n, fun | n => n⟩
theorem Try.mCompact : Go.Proofs.SlLaysN.n43 Try.prog Try.mCompact_ren := {
  mixed := by kernel_rfl
  f43 := ⟨Try.f74.name, by decide, Try.func74.trans (congrArg some (by kernel_rfl))⟩
  t0 := Try.underlying0
  a0 := Try.isAgg0
  z0 := Try.sizeOf0
  v0 := Try.zeroValue0
  t3 := Try.underlying3
  a3 := Try.isAgg3
  z3 := Try.sizeOf3
  v3 := Try.zeroValue3
  t4 := Try.underlying4
  a4 := Try.isAgg4
  z4 := Try.sizeOf4
  v4 := Try.zeroValue4
  t22 := Try.underlying52
  a22 := Try.isAgg52
  z22 := Try.sizeOf52
  v22 := Try.zeroValue52
  t23 := Try.underlying2
  a23 := Try.isAgg2
  z23 := Try.sizeOf2
  v23 := Try.zeroValue2
  i23 := by kernel_rfl
  }

theorem grow_none (w : World) : Go.Sort.grow w #[] = w := by simp [Go.Sort.grow]
theorem Compact_c {B : Nat} {w0 w : World} {L : List Ent} (hS : St B w0 w L) (i : Nat) {v : Value} {xs : List Int} (hi : L[i]? = some (row 2 v (iv xs))) (hl : xs.length < 4611686018427387904) :
    Calls Try.prog 74 #[v] w fun e w' => ∃ v', e = .returned v' ∧ St B w0 w' (L.set i (row 2 v' (iv (Go.Lib.compact xs)))) := by
  have hx := hS.ok _ (List.mem_of_getElem? hi)
  rcases hx with ⟨hp, _⟩ | ⟨_, hv, hu⟩ | ⟨_, g, cap, cur, hv, hB, hh, h1, h2, h3, h4⟩
  · simp [row] at hp
  · simp only [row] at hv hu
    have hx : xs = [] := by cases xs with
      | nil => rfl
      | cons a r => simp [iv] at hu
    subst hx
    subst hv
    have hc := AnyG.slices_Compact_int_empty Try.mCompact none 0 w
    refine Calls.mono hc ?_
    rintro e w' ⟨rfl, rfl⟩
    refine ⟨_, rfl, ?_⟩
    have : L.set i (row 2 (.slice none 0 0) (iv (Go.Lib.compact []))) = L := by
      obtain ⟨hlt, heq⟩ := List.getElem?_eq_some_iff.1 hi
      have e : Go.Lib.compact ([] : List Int) = [] := by simp [Go.Lib.compact, Go.Lib.compactUpTo]
      rw [e, ← heq, List.set_getElem_self]
    rw [this]; exact hS
  · simp only [row] at hv h1 h4 hh
    rw [iv_len] at hv h1 h4
    have hblk : g < w.heap.size := (Array.getElem?_eq_some_iff.1 hh).1
    have hH : Go.Sort.Holds (Value.int .i64) w g 0 xs.toArray := holds_of_blockI hh h4
    have hc := AnyG.slices_Compact_int Try.mCompact g 0 cap xs w hH (by omega) h1
    have hle : (Go.Lib.compact xs).length ≤ xs.length := by
      unfold Go.Lib.compact Go.Lib.compactUpTo
      rw [List.length_map]
      have := List.length_filter_le (Go.Lib.keeps xs.toArray) (List.range xs.length)
      simpa using this
    subst hv
    refine Calls.mono hc ?_
    rintro e w' ⟨rfl, q, rfl⟩
    refine ⟨_, rfl, ?_⟩
    have key : ∀ (W : World) (L' : List Ent), St B w0 (Go.Sort.grow W #[]) L' → St B w0 W L' := fun W L' h => by rwa [grow_none] at h
    refine key _ _ ?_
    clear key
    generalize Go.Lib.compact xs = ys at *
    have hlen : (ys ++ List.replicate (xs.length - ys.length) (0 : Int)).length = xs.length := by simp; omega
    refine hS.put i hi ?_ (row 2 (.slice (some ⟨g, 0, none⟩) ys.length cap) (iv ys)) (.inr (.inr ⟨rfl, g, cap, _, ?_, hB, heap_sortedI _ hh, ?_, h2, ?_, ?_⟩)) (.inl rfl)
    · exact grownBy_sortedI _
    · simp [row, iv_len]
    · simp [row, iv_len]; omega
    · simp [Go.Sort.putCells, h3]
    · have := take_putCellsI cur (ys ++ List.replicate (xs.length - ys.length) (0 : Int)) (by omega)
      rw [hlen] at this
      have h5 := congrArg (List.take ys.length) this
      have e5 : List.take ys.length (List.map (Value.int .i64) (ys ++ List.replicate (xs.length - ys.length) (0 : Int))) = List.map (Value.int .i64) ys := by rw [List.map_append, List.take_left' (by simp)]
      rw [List.take_take, Nat.min_eq_left hle, e5] at h5
      simpa [row, iv] using h5
/-! ### what it leaves, of a list in rising order -/
theorem gb_nth (xs : List Int) {j : Nat} (hj : j < xs.length) : xs.toArray[j]! = nth xs j := by
  simp [nth, hj]
theorem mem_compact {xs : List Int} {x : Int} : x ∈ Go.Lib.compact xs ↔ x ∈ xs := by
  unfold Go.Lib.compact Go.Lib.compactUpTo
  rw [List.mem_map]
  constructor
  · rintro ⟨j, hj, rfl⟩
    have := List.mem_range.1 (List.mem_filter.1 hj).1
    rw [gb_nth xs this]; exact nth_mem this
  · intro hx
    obtain ⟨j, hj, rfl⟩ := List.getElem_of_mem hx
    have key : ∀ j (hj : j < xs.length), ∃ i, i ∈ (List.range xs.length).filter (Go.Lib.keeps xs.toArray) ∧ xs.toArray[i]! = nth xs j := by
      intro j
      induction j with
      | zero => exact fun hj => ⟨0, List.mem_filter.2 ⟨List.mem_range.2 hj, by simp [Go.Lib.keeps]⟩, gb_nth xs hj⟩
      | succ j ih =>
        intro hj
        by_cases e : xs.toArray[j + 1]! = xs.toArray[j]!
        · obtain ⟨i, hi, e2⟩ := ih (by omega)
          exact ⟨i, hi, by rw [e2, ← gb_nth xs (by omega : j < xs.length), ← e, gb_nth xs hj]⟩
        · exact ⟨j + 1, List.mem_filter.2 ⟨List.mem_range.2 hj, by simp only [Go.Lib.keeps, decide_eq_true_eq]; exact .inr e⟩, gb_nth xs hj⟩
    obtain ⟨i, hi, e⟩ := key j hj
    exact ⟨i, hi, by rw [e, nth_eq hj]⟩
theorem compact_nodup {xs : List Int} (h : xs.Pairwise (· ≤ ·)) : (Go.Lib.compact xs).Nodup := by
  unfold Go.Lib.compact Go.Lib.compactUpTo
  have hs : ∀ i j, i ≤ j → j < xs.length → nth xs i ≤ nth xs j := fun i j hij hj => by
    rcases Nat.lt_or_eq_of_le hij with hlt | rfl
    · have := List.pairwise_iff_getElem.1 h i j (by omega) hj hlt
      rw [nth_eq (by omega), nth_eq hj]; exact this
    · exact Int.le_refl _
  rw [List.nodup_iff_pairwise_ne, List.pairwise_map]
  have hp : ((List.range xs.length).filter (Go.Lib.keeps xs.toArray)).Pairwise (· < ·) := List.Pairwise.filter _ (List.pairwise_lt_range)
  refine hp.imp_of_mem fun {a b} ha hb hab e => ?_
  have hb1 := List.mem_range.1 (List.mem_filter.1 hb).1
  have hk := (List.mem_filter.1 hb).2
  simp only [Go.Lib.keeps, decide_eq_true_eq] at hk
  rcases hk with h0 | hne
  · omega
  · rw [gb_nth xs hb1, gb_nth xs (by omega)] at hne
    rw [gb_nth xs (by omega), gb_nth xs hb1] at e
    have := hs a (b - 1) (by omega) (by omega)
    have := hs (b - 1) b (by omega) hb1
    omega
theorem msort_up (xs : List Int) : (srt xs).Pairwise (· ≤ ·) := by
  have := List.pairwise_mergeSort (le := fun x y : Int => decide (x ≤ y)) (fun a b c h1 h2 => by simp at *; omega) (fun a b => by simp; omega) xs
  exact this.imp fun h => by simpa using h
end Go.Proofs.Ytejncephbafcdaa
end

section
/- Walks: dual designs of the reference that are refused; numbers of points that blocks share. -/
namespace Go.Proofs.Ytejncephbafcdaa
set_option linter.unusedSimpArgs false
set_option linter.unusedVariables false
open Go.RowKit
attribute [local go_sem ↓] Go.wp_at_zero Go.wp_at_succ

theorem emp0L {B : Nat} {w0 w : World} {L : List Ent} (h : St B w0 w L) : St B w0 (w.alloc (.cells #[] 2)) (L ++ [row 2 (.slice (some ⟨w.heap.size, 0, none⟩) 0 0) []]) := by
  have := h.new 2 #[] (by simp)
  simpa using this
set_option maxHeartbeats 8000000 in
set_option maxRecDepth 100000 in
theorem sDualDesign_no (P : Nat) (v : Value) (us : List Value) (A : List (List Int)) (w : World) (hv : RII w v us A) (hok : dOk P A = true) (hc : duC P A ≠ 0) :
    Calls Try.prog 27 #[dv P v] w (MakesD w 0 [] (duC P A)) := by
  obtain ⟨a, c, hsh⟩ := hv.1.sl.sh
  rw [hv.2.1] at hsh
  subst hsh
  have hD := dOk_t hok
  have hP := hD.le
  have hDl := hD.len
  have hS0 := ((St.refl w).newboxF 41 #[.int .i64 P, .slice a A.length c]).newboxF 41 #[.int .i64 0, .slice none 0 0]
  simp only [World.size_alloc] at hS0
  have K1 := Lib.hid (l10Ok_c P w.heap.size (.slice a A.length c) us A _ (hS0.oldII hv) ⟨hS0.bcell 1 rfl 0 rfl, hS0.bcell 1 rfl 1 rfl⟩)
  rw [hok] at K1
  have hixe := hv.ixe
  unfold dv
  clear hD hok
  go_enter Try.func27, Try.ntmps27
  go_wp2_with fail
  refine K1.out.mono ?_
  clear K1
  rintro e w2 ⟨rfl, h2⟩
  have hS2 := hS0.call0 h2
  have b0 := hS2.bcell 1 rfl 0 rfl
  have b1 := hS2.bcell 1 rfl 1 rfl
  clear hS0 h2
  have KW := fun W => Lib.hid (l00In_c (A.length : Int) 1 32 W)
  cases hin : inB (A.length : Int) 1 32
  · rw [hin] at KW
    have HC := Lib.hid (show duC P A = 2 by rw [duC, if_neg (by rw [hin]; decide)])
    clear hin hc
    have r0 := hS2.bcell 0 rfl 0 rfl
    have r1 := hS2.bcell 0 rfl 1 rfl
    have f0 := hS2.bfree 0 rfl
    have h6 := (hS2.bstore 0 rfl 0 (.int .i64 0)).bstore 0 rfl 1 (.slice none 0 0)
    have d0 := h6.bcell 0 rfl 0 rfl
    have d1 := h6.bcell 0 rfl 1 rfl
    go_wp2_with (go_at_call 68; refine (KW _).out.mono ?_; rintro e w1 ⟨rfl, rfl⟩)
    refine bodyPost_ret (v := .tuple #[.agg #[.int .i64 0, .slice none 0 0], .int .i64 2]) (by first | simp [results, Try.results27, go_sem, d0, d1] | simp [results, Try.results27, go_sem, r0, r1]) rfl ?_
    rw [HC.out]
    first | exact MakesD.no h6 | exact MakesD.no hS2
  · rw [hin] at KW
    have HE := Lib.hid (show duE P A = true by
      cases hE : duE P A with
      | true => rfl
      | false => exact absurd (show duC P A = 0 by rw [duC, if_pos hin, hE]; rfl) hc)
    have HC := Lib.hid (show duC P A = 6 by rw [duC, if_pos hin, if_pos HE.out])
    clear hin hc
    have hS3 : St w.heap.size w _ (box 41 (w.heap.size + 1) [.int .i64 0, .slice none 0 0] :: box 41 w.heap.size [.int .i64 P, .slice a A.length c] :: own2 (.slice (some ⟨w2.heap.size, 0, none⟩) 0 0) [] []) := hS2.new 52 #[] (by simp)
    clear hS2
    go_wp2_with (go_at_call 68; refine (KW _).out.mono ?_; rintro e w1 ⟨rfl, rfl⟩)
    go_loopw [4, 5, 6, 7] (fun o i _ _ wr => ∃ (x : Nat) (uo : List Value) (R : List (List Int)), x ≤ P ∧ i = .int .i64 x ∧ Hid (uo.length = R.length ∧ R.length = x ∧ ∀ y, y < x → dua A y A.length ≠ []) ∧ St w.heap.size w wr (box 41 (w.heap.size + 1) [.int .i64 0, .slice none 0 0] :: box 41 w.heap.size [.int .i64 P, .slice a A.length c] :: own2 o uo R)) (fun _ i _ _ _ => P - (intOf i).toNat)
    case atStart => exact ⟨0, [], [], by omega, rfl, ⟨rfl, rfl, fun y hy => by omega⟩, hS3⟩
    case round =>
      clear hS3 b0 b1
      obtain ⟨x, uo, R, hx, rfl, hI, hS⟩ := hrel
      have b0 := hS.bcell 1 rfl 0 rfl
      have b1 := hS.bcell 1 rfl 1 rfl
      by_cases hxP : x < P
      · have hxi : (x : Int) < P := by omega
        have hS4 := (emp0L hS).perm (L' := row 2 (.slice (some ⟨wr.heap.size, 0, none⟩) 0 0) [] :: box 41 (w.heap.size + 1) [.int .i64 0, .slice none 0 0] :: box 41 w.heap.size [.int .i64 P, .slice a A.length c] :: own2 u4 uo R) (by (try simp only [own2, List.cons_append, List.nil_append, List.append_nil]); classical exact List.perm_iff_count.2 (fun a => by simp only [List.cons_append, List.nil_append, List.append_nil, List.count_append, List.count_cons, List.count_nil] <;> omega))
        clear hS
        go_wp2_with fail
        go_loopw [6, 7] (fun q i wx => ∃ k : Nat, k ≤ A.length ∧ i = .int .i64 k ∧ St w.heap.size w wx (row 2 q (iv (dua A x k)) :: box 41 (w.heap.size + 1) [.int .i64 0, .slice none 0 0] :: box 41 w.heap.size [.int .i64 P, .slice a A.length c] :: own2 u4 uo R)) (fun _ i _ => A.length - (intOf i).toNat)
        case atStart => exact ⟨0, by omega, rfl, hS4⟩
        case round =>
          clear hS4 b0 b1
          obtain ⟨k, hk, rfl, hS⟩ := hrel
          have b1 := hS.bcell 2 rfl 1 rfl
          by_cases hkt : k < A.length
          · have ck := (hS.oldII hv).cell k hkt
            have xk := hixe (k : Int) k rfl hkt
            have KH := l00Has_c (vat us k) (xat A k) x wr ((hS.oldII hv).row k hkt)
            have hst := Lib.hid (show dua A x (k + 1) = dua A x k ++ if (x : Int) ∈ xat A k then [(k : Int)] else [] from rfl)
            have hdl := Lib.hid (show (dua A x k).length < 4294967296 by have := dua_len A x k; omega)
            by_cases hm : (x : Int) ∈ xat A k
            · rw [decide_eq_true hm] at KH
              have KH := Lib.hid KH
              rw [if_pos hm] at hst
              clear hm
              go_wp2_with (first | (go_at_call 69; refine KH.out.mono ?_; rintro e w6 ⟨rfl, rfl⟩) | (at_builtin; refine appI hS 0 rfl hdl.out rfl _ _ rfl rfl _ rfl ?_; intro v8 w8 hS8))
              simp only [List.set_cons_zero] at hS8
              go_roundw
              case rel => exact ⟨k + 1, by omega, by go_num, by rw [hst.out]; exact hS8⟩
              case measure => simp [intOf]; omega
            · rw [decide_eq_false hm] at KH
              have KH := Lib.hid KH
              rw [if_neg hm, List.append_nil] at hst
              clear hm
              go_wp2_with (go_at_call 69; refine KH.out.mono ?_; rintro e w6 ⟨rfl, rfl⟩)
              go_roundw
              case rel => exact ⟨k + 1, by omega, by go_num, by rw [hst.out]; exact hS⟩
              case measure => simp [intOf]; omega
          · obtain rfl : k = A.length := by omega
            have hlq := (hS.rdI 0 rfl).len
            by_cases he : (dua A x A.length).length = 0
            · have f := eq_t (show ((dua A x A.length).length : Int) = 0 by omega)
              have r0 := hS.bcell 1 rfl 0 rfl
              have r1 := hS.bcell 1 rfl 1 rfl
              have f0 := hS.bfree 1 rfl
              have h6 := (hS.bstore 1 rfl 0 (.int .i64 0)).bstore 1 rfl 1 (.slice none 0 0)
              have d0 := h6.bcell 1 rfl 0 rfl
              have d1 := h6.bcell 1 rfl 1 rfl
              clear he
              go_wp2_with fail
              refine bodyPost_ret (v := .tuple #[.agg #[.int .i64 0, .slice none 0 0], .int .i64 6]) (by first | simp [results, Try.results27, go_sem, d0, d1] | simp [results, Try.results27, go_sem, r0, r1]) rfl ?_
              rw [HC.out]
              first | exact MakesD.no h6 | exact MakesD.no hS
            · have f := eq_f (show ¬ ((dua A x A.length).length : Int) = 0 by omega)
              have Hne := Lib.hid (show dua A x A.length ≠ [] from fun e => he (by rw [e]; rfl))
              obtain ⟨la, lc, hle⟩ := (hS.rdI 0 rfl).sl.sh
              rw [iv_len] at hle
              subst hle
              have hul := Lib.hid (show uo.length < 4294967296 by rw [hI.out.1, hI.out.2.1]; omega)
              clear he
              go_wp2_with (at_builtin; refine appII hS 3 rfl hul.out rfl _ _ rfl rfl _ rfl rfl ?_; intro v8 w8 hS8)
              simp only [List.set_cons_succ] at hS8
              go_roundw
              case rel =>
                refine ⟨x + 1, uo ++ [.slice la (dua A x A.length).length lc], R ++ [dua A x A.length], by omega, by go_num, ⟨by simp [hI.out.1], by simp [hI.out.2.1], fun y hy => by
                  by_cases e : y = x
                  · rw [e]; exact Hne.out
                  · exact hI.out.2.2 y (by omega)⟩, ?_⟩
                rw [own2, rowsI_app hI.out.1]
                have h9 : St w.heap.size w w8 (row 2 (.slice la (dua A x A.length).length lc) (iv (dua A x A.length)) :: box 41 (w.heap.size + 1) [.int .i64 0, .slice none 0 0] :: box 41 w.heap.size [.int .i64 P, .slice a A.length c] :: row 52 v8 (uo ++ [.slice la (dua A x A.length).length lc]) :: rowsI uo R) := hS8
                exact h9.perm (by (try simp only [own2, List.cons_append, List.nil_append, List.append_nil]); classical exact List.perm_iff_count.2 (fun a => by simp only [List.cons_append, List.nil_append, List.append_nil, List.count_append, List.count_cons, List.count_nil] <;> omega))
              case measure => simp [intOf]; omega
      · exfalso
        have hE := HE.out
        unfold duE duaL at hE
        rw [List.any_eq_true] at hE
        obtain ⟨b, hb, hb0⟩ := hE
        obtain ⟨y, hy, rfl⟩ := List.mem_map.1 hb
        have hyP := List.mem_range.1 hy
        exact hI.out.2.2 y (by omega) (List.eq_nil_of_length_eq_zero (of_decide_eq_true hb0))
end Go.Proofs.Ytejncephbafcdaa
end

section
/- Walks: the numbers of points that two blocks share. -/
namespace Go.Proofs.Ytejncephbafcdaa
set_option linter.unusedSimpArgs false
set_option linter.unusedVariables false
open Go.RowKit
attribute [local go_sem ↓] Go.wp_at_zero Go.wp_at_succ

def mtg (a b : List Int) : List Int := ifSets a b (mee a b)
theorem upF_len2 (f : Int → Bool) : ∀ k lo, (upF f lo k).length ≤ k
  | 0, _ => Nat.le_refl _
  | k + 1, lo => by
    rw [upF]
    split
    · simpa using upF_len2 f k (lo + 1)
    · exact Nat.le_succ_of_le (upF_len2 f k (lo + 1))
theorem mtg_len (a b : List Int) : (mtg a b).length ≤ 32 := by
  unfold mtg ifSets; split
  · exact upF_len2 _ _ _
  · simp
def mtR (A : List (List Int)) (i : Nat) : List Int := (List.range i).map fun j => ((mtg (xat A i) (xat A j)).length : Int)
def mtA (A : List (List Int)) : Nat → List Int
  | 0 => []
  | i + 1 => mtA A i ++ mtR A i
theorem mtR_take {A : List (List Int)} {i j : Nat} (h : j < i) : (mtR A i).take (j + 1) = (mtR A i).take j ++ [((mtg (xat A i) (xat A j)).length : Int)] := by
  rw [List.take_add_one, List.getElem?_eq_getElem (by simp [mtR]; exact h)]
  simp [mtR]
theorem mtR_len (A : List (List Int)) (i : Nat) : (mtR A i).length = i := by simp [mtR]
theorem mtA_len (A : List (List Int)) {n : Nat} : ∀ i, i ≤ n → (mtA A i).length ≤ i * n
  | 0, _ => Nat.zero_le _
  | i + 1, h => by rw [mtA, List.length_append, mtR_len, Nat.succ_mul]; have := mtA_len A i (n := n) (by omega); omega
theorem take_vat {us : List Value} {i j : Nat} (h : j < i) : vat ((us.take i).drop 0) j = vat us j := by
  unfold vat
  rw [List.drop_zero, List.getD_eq_getElem?_getD, List.getElem?_take_of_lt h, ← List.getD_eq_getElem?_getD]
set_option maxHeartbeats 8000000 in
set_option maxRecDepth 100000 in
theorem MeetingsOf_c (P : Nat) (v : Value) (us : List Value) (A : List (List Int)) (w : World) (hv : RII w v us A) (hok : dOk P A = true) :
    Calls Try.prog 29 #[dv P v] w (MakesIC' w (Go.Lib.compact (srt (mtA A A.length))) 0) := by
  obtain ⟨a, c, hsh⟩ := hv.1.sl.sh
  rw [hv.2.1] at hsh
  subst hsh
  have hDl := (dOk_t hok).len
  have hS0 := (St.refl w).newboxF 41 #[.int .i64 P, .slice a A.length c]
  have b0 := hS0.bcell 0 rfl 0 rfl
  have b1 := hS0.bcell 0 rfl 1 rfl
  have K1 := Lib.hid (ValidDesign_c P (.slice a A.length c) us A _ (hS0.oldII hv))
  rw [hok] at K1
  have hix := hv.ix
  have hul := Lib.hid hv.2.1
  unfold dv at K1 ⊢
  clear hok
  go_enter Try.func29, Try.ntmps29
  go_wp2_with fail
  refine K1.out.mono ?_
  clear K1 b0 b1
  rintro e w2 ⟨rfl, h2⟩
  have hS2 := hS0.call0 h2
  have b1 := hS2.bcell 0 rfl 1 rfl
  have hS3 := (hS2.nilrow4 2).perm (L' := [row 2 (.slice none 0 0) [], box 41 w.heap.size [.int .i64 P, .slice a A.length c]]) (by (try simp only [own2, List.cons_append, List.nil_append, List.append_nil]); classical exact List.perm_iff_count.2 (fun a => by simp only [List.cons_append, List.nil_append, List.append_nil, List.count_append, List.count_cons, List.count_nil] <;> omega))
  clear hS0 h2 hS2
  go_wp2_with fail
  go_loopw [4, 5, 6, 8, 15] (fun o _ _ _ i wr => ∃ k : Nat, k ≤ A.length ∧ i = .int .i64 k ∧ St w.heap.size w wr [row 2 o (iv (mtA A k)), box 41 w.heap.size [.int .i64 P, .slice a A.length c]]) (fun _ _ _ _ i _ => A.length - (intOf i).toNat)
  case atStart => exact ⟨0, by omega, rfl, hS3⟩
  case round =>
    clear hS3 b1
    obtain ⟨k, hk, rfl, hS⟩ := hrel
    have b1 := hS.bcell 1 rfl 1 rfl
    by_cases hkt : k < A.length
    · have hRw := hS.oldII hv
      have ck := hRw.cell k hkt
      have hku : k ≤ us.length := by rw [hul.out]; omega
      have hsl := rslII_hi hRw.1 k hku
      have hr2 := rsl_Rd hRw.1 (Nat.zero_le k) hku
      have hl2' : ((us.take k).drop 0).length = k := by simp; omega
      have hl2 := fun (ty : TypeId) (W : World) => run_len_sl (P := Try.prog) hr2.sl 26 ty Try.und_iss W
      have hi2 := run_ix_sl (P := Try.prog) hr2.sl 26 Try.und_iss Try.size_is
      rw [hl2'] at hl2 hi2
      have hS' : St w.heap.size w wr [row 2 u4 (iv (mtA A k ++ (mtR A k).take 0)), box 41 w.heap.size [.int .i64 P, .slice a A.length c]] := by rw [List.take_zero, List.append_nil]; exact hS
      have hml := mtA_len A k (n := 128) (by omega)
      have Hku := Lib.hid hku
      clear hr2 hl2' hRw hS hku
      go_wp2_with fail
      go_loopw [4, 8, 25] (fun o _ i wr => ∃ j : Nat, j ≤ k ∧ i = .int .i64 j ∧ St w.heap.size w wr [row 2 o (iv (mtA A k ++ (mtR A k).take j)), box 41 w.heap.size [.int .i64 P, .slice a A.length c]]) (fun _ _ i _ => k - (intOf i).toNat)
      case atStart => exact ⟨0, by omega, rfl, hS'⟩
      case round =>
        clear hS' ck b1
        obtain ⟨j, hj, rfl, hS⟩ := hrel
        by_cases hjt : j < k
        · have hRw := hS.oldII hv
          have cj : wr.cell? (el (rsl (.slice a A.length c) 0 k) j) = some (vat us j) := by
            have := Rd.cell (rsl_Rd hRw.1 (Nat.zero_le k) Hku.out) (i := j) (by simp; have := Hku.out; omega)
            rw [show ((us.take k).drop 0).getD j undef = vat us j from take_vat hjt] at this; exact this
          have KM := Lib.hid (MeetSets_c _ _ _ _ _ (hRw.row k hkt) (hRw.row j (by omega)))
          rw [show ifSets (xat A k) (xat A j) (mee (xat A k) (xat A j)) = mtg (xat A k) (xat A j) from rfl] at KM
          have Ht := Lib.hid (mtR_take (A := A) hjt)
          have h32 := mtg_len (xat A k) (xat A j)
          have hll := Lib.hid (show (mtA A k ++ (mtR A k).take j).length < 4294967296 by simp only [List.length_append, List.length_take, mtR_len]; omega)
          generalize mtg (xat A k) (xat A j) = M at *
          clear hRw
          go_wp2_with fail
          refine KM.out.mono ?_
          clear KM
          rintro e w5 ⟨vM, rfl, h5⟩
          have rM := h5.rdI 0 rfl
          have hS5 := hS.call h5
          clear hS h5
          go_wp2_with (first | (go_at_call 46; refine (size_c _ _ _ rM).mono ?_; rintro e w6 ⟨rfl, rfl⟩) | (at_builtin; refine appI hS5 0 rfl hll.out rfl _ _ rfl rfl _ rfl ?_; intro v8 w8 hS8))
          simp only [List.cons_append, List.nil_append, List.set_cons_zero] at hS8
          rw [List.append_assoc, ← Ht.out] at hS8
          go_roundw
          case rel => exact ⟨j + 1, by omega, by go_num, hS8.sub (((List.nil_sublist _).cons_cons _).cons_cons _)⟩
          case measure => simp [intOf]; omega
        · obtain rfl : j = k := by omega
          rw [List.take_of_length_le (by rw [mtR_len]; omega), show mtA A j ++ mtR A j = mtA A (j + 1) from rfl] at hS
          go_wp2_with fail
          go_roundw
          case rel => exact ⟨j + 1, by omega, by go_num, hS⟩
          case measure => simp [intOf]; omega
    · obtain rfl : k = A.length := by omega
      have hml := mtA_len A A.length (n := 128) (by omega)
      have hsl : (srt (mtA A A.length)).length = (mtA A A.length).length := srt_len _
      go_wp2_with fail
      refine (Sort_c hS 0 rfl (by omega)).mono ?_
      rintro e w5 ⟨rfl, h5⟩
      simp only [List.set_cons_zero] at h5
      go_wp2_with fail
      refine (Compact_c h5 0 rfl (by omega)).mono ?_
      rintro e w6 ⟨v6, rfl, h6⟩
      simp only [List.set_cons_zero] at h6
      go_wp2_with fail
      refine bodyPost_ret (v := .tuple #[v6, .int .i64 0]) (by simp [results, Try.results29, go_sem]) rfl ?_
      exact ⟨v6, rfl, h6.sub ((List.nil_sublist _).cons_cons _)⟩
end Go.Proofs.Ytejncephbafcdaa
end

section
/- Plain: sums of the numbers of points and pairs; images of designs. -/
namespace Go.Proofs.Ytejncephbafcdaa
set_option linter.unusedSimpArgs false
set_option linter.unusedVariables false

theorem sumL_cat : ∀ a b : List Int, sumL (a ++ b) = sumL a + sumL b
  | [], b => by simp [sumL]
  | x :: r, b => by rw [List.cons_append, sumL, sumL, sumL_cat r b]; omega
theorem sumL_add {α : Type} (f g : α → Int) : ∀ l : List α, sumL (l.map fun x => f x + g x) = sumL (l.map f) + sumL (l.map g)
  | [] => rfl
  | x :: r => by simp only [List.map_cons, sumL]; rw [sumL_add f g r]; omega
def indP (b : List Int) (x : Nat) : Int := if (x : Int) ∈ b then 1 else 0
theorem blw_ind {b : List Int} (hp : b.Pairwise (· < ·)) (x : Nat) : ((blw b (x + 1)).length : Int) = (blw b x).length + indP b x := by
  rw [blw_step hp, List.length_append]
  unfold indP
  split <;> simp
theorem ind_sum {P : Nat} {b : List Int} (h : Inc P b) : ∀ y, sumL ((List.range y).map (indP b)) = (blw b y).length
  | 0 => by rw [blw_0 h]; rfl
  | y + 1 => by rw [List.range_succ, List.map_append, sumL_cat, ind_sum h y, blw_ind (incB_pw2 h)]; simp [sumL]
end Go.Proofs.Ytejncephbafcdaa
end

section
/- Plain: images of balanced designs have the same parameters. -/
namespace Go.Proofs.Ytejncephbafcdaa
set_option linter.unusedSimpArgs false
set_option linter.unusedVariables false
section
variable {p : List Int} {P : Nat} {b : List Int}
end
section
variable {p : List Int} {P : Nat} {A : List (List Int)}
theorem parF_symm (A : List (List Int)) (x y : Nat) : parF A x y = parF A y x := by
  unfold parF; congr 1; funext b; rw [Bool.and_comm]
theorem parL_mem {P : Nat} {A : List (List Int)} {c : Int} : c ∈ parL P A ↔ ∃ x y, x < y ∧ y < P ∧ c = parF A x y := by
  unfold parL
  simp only [List.mem_flatten, List.mem_map, List.mem_range]
  constructor
  · rintro ⟨l, ⟨x, hx, rfl⟩, hc⟩
    unfold parR at hc
    simp only [List.mem_map, List.mem_range] at hc
    obtain ⟨t, ht, rfl⟩ := hc
    exact ⟨x, x + 1 + t, by omega, by omega, rfl⟩
  · rintro ⟨x, y, hxy, hy, rfl⟩
    refine ⟨parR P A x, ⟨x, by omega, rfl⟩, ?_⟩
    unfold parR
    simp only [List.mem_map, List.mem_range]
    exact ⟨y - (x + 1), by omega, by rw [show x + 1 + (y - (x + 1)) = y by omega]⟩
end
end Go.Proofs.Ytejncephbafcdaa
end

section
/- Plain: in a symmetric design any two blocks share as many points; its dual design. -/
namespace Go.Proofs.Ytejncephbafcdaa
set_option linter.unusedSimpArgs false
set_option linter.unusedVariables false

theorem sq_ge0 (x : Int) : 0 ≤ x * x := by
  rcases Int.le_total 0 x with h0 | h0
  · exact Int.mul_nonneg h0 h0
  · exact Int.mul_nonneg_of_nonpos_of_nonpos h0 h0
/-- a sum over numbers below n -/
def sR (n : Nat) (f : Nat → Int) : Int := sumL ((List.range n).map f)
theorem sR_succ (n : Nat) (f : Nat → Int) : sR (n + 1) f = sR n f + f n := by
  unfold sR; rw [List.range_succ, List.map_append, sumL_cat]; simp [sumL]
theorem sR_congr {n : Nat} {f g : Nat → Int} (h : ∀ x, x < n → f x = g x) : sR n f = sR n g := by
  unfold sR; rw [List.map_congr_left fun x hx => h x (List.mem_range.1 hx)]
theorem sR_add (n : Nat) (f g : Nat → Int) : sR n (fun x => f x + g x) = sR n f + sR n g := sumL_add f g _
theorem sR_mul (n : Nat) (c : Int) (f : Nat → Int) : sR n (fun x => c * f x) = c * sR n f := by
  induction n with
  | zero => simp [sR, sumL]
  | succ n ih => rw [sR_succ, sR_succ, ih, Int.mul_add]
theorem sR_const (n : Nat) (c : Int) : sR n (fun _ => c) = n * c := by
  induction n with
  | zero => simp [sR, sumL]
  | succ n ih => rw [sR_succ, ih]; push_cast; rw [Int.add_mul]; omega
theorem sR_swap (n m : Nat) (f : Nat → Nat → Int) : sR n (fun x => sR m (f x)) = sR m (fun y => sR n fun x => f x y) := by
  induction n with
  | zero => rw [show (fun y => sR 0 fun x => f x y) = fun _ => (0 : Int) from rfl, sR_const]; simp [sR, sumL]
  | succ n ih =>
    rw [sR_succ, ih, ← sR_add]
    exact sR_congr fun y _ => (sR_succ n fun x => f x y).symm
theorem sR_nonneg {n : Nat} {f : Nat → Int} (h : ∀ x, x < n → 0 ≤ f x) : 0 ≤ sR n f := by
  induction n with
  | zero => simp [sR, sumL]
  | succ n ih => rw [sR_succ]; have := ih fun x hx => h x (by omega); have := h n (by omega); omega
theorem sR_zero {n : Nat} {f : Nat → Int} (h : ∀ x, x < n → 0 ≤ f x) (hs : sR n f = 0) : ∀ x, x < n → f x = 0 := by
  induction n with
  | zero => intro x hx; omega
  | succ n ih =>
    rw [sR_succ] at hs
    have h1 := sR_nonneg (n := n) (f := f) fun x hx => h x (by omega)
    have h2 := h n (by omega)
    intro x hx
    by_cases e : x = n
    · subst e; omega
    · exact ih (fun x hx => h x (by omega)) (by omega) x (by omega)
/-- a sum of a sum with one term given -/
theorem sR_one {n : Nat} (f : Nat → Int) {i : Nat} (hi : i < n) : sR n (fun x => if x = i then f x else 0) = f i := by
  induction n with
  | zero => omega
  | succ n ih =>
    rw [sR_succ]
    by_cases e : i = n
    · subst e
      rw [if_pos rfl, sR_congr (g := fun _ => 0) fun x hx => if_neg (by omega), sR_const]; simp
    · rw [if_neg (by omega), ih (by omega)]; simp
/-- the number of blocks with a property, as a sum -/
theorem cntD_sR (p : List Int → Bool) (A : List (List Int)) : cntD p A = sR A.length fun i => if p (xat A i) = true then 1 else 0 := by
  have : ∀ k, k ≤ A.length → cntD p (A.take k) = sR k fun i => if p (xat A i) = true then 1 else 0 := by
    intro k
    induction k with
    | zero => intro _; simp [cntD, sR, sumL]
    | succ k ih => intro hk; rw [take_xat (by omega), cntD_snoc, ih (by omega), sR_succ]
  have h := this A.length (Nat.le_refl _)
  rwa [List.take_length] at h
theorem len_sR {P : Nat} {b : List Int} (h : Inc P b) : (b.length : Int) = sR P (indP b) := by
  unfold sR; rw [ind_sum h, blw_all h]
theorem rep_sR (A : List (List Int)) (x : Nat) : repF A x = sR A.length fun i => indP (xat A i) x := by
  unfold repF
  rw [cntD_sR]
  exact sR_congr fun i _ => by unfold indP; simp
theorem par_sR (A : List (List Int)) (x y : Nat) : parF A x y = sR A.length fun i => indP (xat A i) x * indP (xat A i) y := by
  unfold parF
  rw [cntD_sR]
  refine sR_congr fun i _ => ?_
  unfold indP
  by_cases h1 : (x : Int) ∈ xat A i
  · by_cases h2 : (y : Int) ∈ xat A i
    · simp [h1, h2]
    · simp [h1, h2]
  · simp [h1]
theorem indP_sq (b : List Int) (x : Nat) : indP b x * indP b x = indP b x := by unfold indP; split <;> rfl
theorem indP_01 (b : List Int) (x : Nat) : indP b x = 0 ∨ indP b x = 1 := by unfold indP; split <;> simp
/-- the number of points that two blocks share -/
def mI (P : Nat) (A : List (List Int)) (i j : Nat) : Int := sR P fun x => indP (xat A i) x * indP (xat A j) x
/-- what is used of a balanced design -/
structure Bal (P : Nat) (A : List (List Int)) (k lam : Int) : Prop where
  inc : ∀ i, i < A.length → Inc P (xat A i)
  len : ∀ i, i < A.length → ((xat A i).length : Int) = k
  par : ∀ x y, x < P → y < P → x ≠ y → parF A x y = lam
theorem Bal.rep {P : Nat} {A : List (List Int)} {k lam : Int} (h : Bal P A k lam) {x : Nat} (hx : x < P) : repF A x * (k - 1) = lam * (P - 1) := by
  -- sum over y of the numbers of blocks on x and y, in two ways
  have e1 : sR P (fun y => parF A x y) = lam * (P - 1) + repF A x := by
    have : sR P (fun y => parF A x y) = sR P fun y => lam + (if y = x then repF A y - lam else 0) := sR_congr fun y hy => by
      by_cases e : y = x
      · subst e
        rw [if_pos rfl, par_sR, rep_sR, sR_congr fun i _ => indP_sq (xat A i) y]; omega
      · rw [if_neg e, h.par x y hx hy (fun e' => e e'.symm)]; omega
    rw [this, sR_add, sR_const, sR_one (fun y => repF A y - lam) hx]
    grind
  have e2 : sR P (fun y => parF A x y) = repF A x * k := by
    rw [sR_congr fun y _ => par_sR A x y, sR_swap]
    rw [sR_congr (g := fun i => k * indP (xat A i) x) fun i hi => by
      rw [sR_mul P (indP (xat A i) x) (indP (xat A i)), ← len_sR (h.inc i hi), h.len i hi, Int.mul_comm], sR_mul, ← rep_sR, Int.mul_comm]
  rw [e2] at e1
  grind
/-- in a symmetric balanced design every point lies in k blocks -/
theorem Bal.repk {P : Nat} {A : List (List Int)} {k lam : Int} (h : Bal P A k lam) (hk : 2 ≤ k) (hs : A.length = P) (hP : 2 ≤ P) : ∀ x, x < P → repF A x = k := by
  -- all points lie in as many blocks, and b k = v r
  have hall : ∀ x, x < P → repF A x = repF A 0 := fun x hx => by
    have h1 := h.rep hx
    have h2 := h.rep (x := 0) (by omega)
    have : (repF A x - repF A 0) * (k - 1) = 0 := by grind
    rcases Int.mul_eq_zero.1 this with h3 | h3
    · omega
    · omega
  have hsum : sR P (fun x => repF A x) = P * k := by
    rw [sR_congr fun x _ => rep_sR A x, sR_swap, sR_congr (g := fun _ => k) fun i hi => by rw [← len_sR (h.inc i hi), h.len i hi], sR_const, hs]
  rw [sR_congr hall, sR_const] at hsum
  have : repF A 0 = k := by
    have hz : (P : Int) * (repF A 0 - k) = 0 := by grind
    rcases Int.mul_eq_zero.1 hz with h3 | h3
    · omega
    · omega
  intro x hx
  rw [hall x hx, this]
/-- a symmetric balanced design: two blocks share lam points -/
theorem Bal.meet {P : Nat} {A : List (List Int)} {k lam : Int} (h : Bal P A k lam) (hk : 2 ≤ k) (hs : A.length = P) (hP : 2 ≤ P) {i : Nat} (hi : i < A.length) : ∀ j, j < A.length → j ≠ i → mI P A i j = lam := by
  have hr := h.repk hk hs hP
  have hbal := h.rep (x := 0) (by omega)
  rw [hr 0 (by omega)] at hbal
  -- the sums of the numbers of shared points and of their squares
  have s1 : sR A.length (fun j => mI P A i j) = k * k := by
    unfold mI
    rw [sR_swap]
    rw [sR_congr (g := fun x => k * indP (xat A i) x) fun x hx => by
      rw [sR_mul A.length (indP (xat A i) x) fun j => indP (xat A j) x, ← rep_sR, hr x hx, Int.mul_comm], sR_mul, ← len_sR (h.inc i hi), h.len i hi]
  have s2 : sR A.length (fun j => mI P A i j * mI P A i j) = k * k + (k * k - k) * lam := by
    have e : ∀ j, mI P A i j * mI P A i j = sR P fun x => sR P fun y => (indP (xat A i) x * indP (xat A i) y) * (indP (xat A j) x * indP (xat A j) y) := fun j => by
      unfold mI
      rw [← sR_mul]
      refine sR_congr fun x _ => ?_
      rw [Int.mul_comm, ← sR_mul]
      exact sR_congr fun y _ => by grind
    rw [sR_congr fun j _ => e j, sR_swap]
    have inner : ∀ x, x < P → (sR A.length fun j => sR P fun y => (indP (xat A i) x * indP (xat A i) y) * (indP (xat A j) x * indP (xat A j) y)) = indP (xat A i) x * (k * lam + (k - lam)) := fun x hx => by
      rw [sR_swap]
      have e3 : ∀ y, y < P → (sR A.length fun j => (indP (xat A i) x * indP (xat A i) y) * (indP (xat A j) x * indP (xat A j) y)) = indP (xat A i) x * (lam * indP (xat A i) y + if y = x then (k - lam) * indP (xat A i) y else 0) := fun y hy => by
        rw [sR_mul A.length (indP (xat A i) x * indP (xat A i) y) fun j => indP (xat A j) x * indP (xat A j) y, ← par_sR]
        by_cases e4 : y = x
        · subst e4
          rw [if_pos rfl]
          have : parF A y y = k := by rw [par_sR, sR_congr fun j _ => indP_sq (xat A j) y, ← rep_sR, hr y hy]
          rw [this]; grind
        · rw [if_neg e4, h.par x y hx hy (fun e' => e4 e'.symm)]; grind
      rw [sR_congr e3, sR_mul, sR_add, sR_mul, sR_one (fun y => (k - lam) * indP (xat A i) y) hx, ← len_sR (h.inc i hi), h.len i hi]
      rcases indP_01 (xat A i) x with e5 | e5 <;> rw [e5] <;> grind
    rw [sR_congr inner, sR_congr (g := fun x => (k * lam + (k - lam)) * indP (xat A i) x) fun x _ => Int.mul_comm _ _, sR_mul, ← len_sR (h.inc i hi), h.len i hi]
    grind
  have hii : mI P A i i = k := by unfold mI; rw [sR_congr fun x _ => indP_sq (xat A i) x, ← len_sR (h.inc i hi), h.len i hi]
  -- the sum of the squares of the differences is 0
  have hz : sR A.length (fun j => (if j = i then 0 else (mI P A i j - lam) * (mI P A i j - lam))) = 0 := by
    have e6 : ∀ j, j < A.length → (if j = i then (0 : Int) else (mI P A i j - lam) * (mI P A i j - lam)) = (mI P A i j * mI P A i j + (-2 * lam) * mI P A i j) + (lam * lam + if j = i then -((k - lam) * (k - lam)) else 0) := fun j _ => by
      by_cases e : j = i
      · subst e; rw [if_pos rfl, if_pos rfl, hii]; grind
      · rw [if_neg e, if_neg e]; grind
    rw [sR_congr e6, sR_add, sR_add, sR_add, sR_mul, s1, s2, sR_const, sR_one (fun _ => -((k - lam) * (k - lam))) hi, hs]
    grind
  intro j hj hne
  have := sR_zero (fun x _ => by split <;> (try exact Int.le_refl _); exact sq_ge0 _) hz j hj
  rw [if_neg hne] at this
  rcases Int.mul_eq_zero.1 this with h3 | h3 <;> omega
end Go.Proofs.Ytejncephbafcdaa
end

section
/- Plain: what holds of the dual of a design. -/
namespace Go.Proofs.Ytejncephbafcdaa
set_option linter.unusedSimpArgs false
set_option linter.unusedVariables false

theorem duaL_len (P : Nat) (A : List (List Int)) : (duaL P A).length = P := by simp [duaL]
theorem cntD_dua (q : List Int → Bool) (P : Nat) (A : List (List Int)) : cntD q (srtL (duaL P A)) = sR P fun x => if q (dua A x A.length) = true then 1 else 0 := by
  rw [cntD_perm (srtL_perm _), cntD_sR, duaL_len]
  exact sR_congr fun x hx => by rw [show xat (duaL P A) x = dua A x A.length by rw [xat_eq (by rw [duaL_len]; exact hx)]; simp [duaL]]
theorem dua_in {A : List (List Int)} {x i : Nat} (hi : i < A.length) : (i : Int) ∈ dua A x A.length ↔ (x : Int) ∈ xat A i := by
  rw [dua_mem]
  constructor
  · rintro ⟨j, hj, e, h⟩
    obtain rfl : i = j := by omega
    exact h
  · exact fun h => ⟨i, hi, rfl, h⟩
theorem dua_repF (A : List (List Int)) (x : Nat) : ((dua A x A.length).length : Int) = repF A x := by
  rw [rep_sR]
  have : ∀ k, ((dua A x k).length : Int) = sR k fun i => indP (xat A i) x := by
    intro k
    induction k with
    | zero => rfl
    | succ k ih =>
      rw [dua, List.length_append, sR_succ, ← ih]
      unfold indP
      split <;> simp
  exact this _
theorem dual_rep {P : Nat} {A : List (List Int)} (hA : ∀ i, i < A.length → Inc P (xat A i)) {i : Nat} (hi : i < A.length) : repF (srtL (duaL P A)) i = (xat A i).length := by
  unfold repF
  rw [cntD_dua, len_sR (hA i hi)]
  exact sR_congr fun x _ => by
    unfold indP
    by_cases h : (x : Int) ∈ xat A i
    · rw [if_pos h, if_pos (decide_eq_true ((dua_in hi).2 h))]
    · rw [if_neg h, if_neg (by rw [decide_eq_true_eq]; exact fun h' => h ((dua_in hi).1 h'))]
theorem dual_par {P : Nat} {A : List (List Int)} {i j : Nat} (hi : i < A.length) (hj : j < A.length) : parF (srtL (duaL P A)) i j = mI P A i j := by
  unfold parF mI
  rw [cntD_dua]
  exact sR_congr fun x _ => by
    unfold indP
    by_cases h1 : (x : Int) ∈ xat A i
    · by_cases h2 : (x : Int) ∈ xat A j
      · simp [h1, h2, dua_in hi, dua_in hj]
      · simp [h1, h2, dua_in hi, dua_in hj]
    · simp [h1, dua_in hi]
theorem dual_repL {P : Nat} {A : List (List Int)} (hA : ∀ i, i < A.length → Inc P (xat A i)) {i : Nat} (hi : i < A.length) : nth (repL A.length (srtL (duaL P A))) i = (xat A i).length := by
  rw [nth_eq (by rw [repL_len]; exact hi)]
  simp only [repL, List.getElem_map, List.getElem_range]
  exact dual_rep hA hi
theorem dual_ok {P : Nat} {A : List (List Int)} (hD : DOk P A) (hc : duC P A = 0) : dOk A.length (srtL (duaL P A)) = true ∧ 1 ≤ A.length := by
  have h1 : inB (A.length : Int) 1 32 = true := by
    cases h : inB (A.length : Int) 1 32 with
    | true => rfl
    | false => rw [duC, if_neg (by rw [h]; decide)] at hc; exact absurd hc (by decide)
  have h2 : duE P A = false := by
    cases h : duE P A with
    | false => rfl
    | true => rw [duC, if_pos h1, if_pos h] at hc; exact absurd hc (by decide)
  have hb : 1 ≤ (A.length : Int) ∧ (A.length : Int) ≤ 32 := by simpa [inB] using h1
  have hP := hD.le
  refine ⟨DOk.ok (DOk.mk' (by omega) (by omega) (by rw [duaL_len]; omega) fun b hb' => ?_), by omega⟩
  obtain ⟨x, hx, rfl⟩ := List.mem_map.1 hb'
  refine ⟨?_, dua_inc A x (Nat.le_refl _)⟩
  unfold duE at h2
  rw [List.any_eq_false] at h2
  have := h2 _ hb'
  simp at this
  cases hd : dua A x A.length with
  | nil => exact absurd hd this
  | cons _ _ => simp
theorem mtg_sR {P : Nat} {a b : List Int} (hP : P ≤ 32) (ha : Inc P a) (hb : Inc P b) (sa : IsSet a) (sb : IsSet b) : ((mtg a b).length : Int) = sR P fun x => indP a x * indP b x := by
  have hm : mtg a b = mee a b := by unfold mtg ifSets; rw [if_pos ⟨sa, sb⟩]
  have hI : Inc P (mee a b) := by
    refine inc_of (incB_of (fun x hx => ?_) (incB_pw (isSet_upF _)))
    unfold mee at hx
    rw [mem_upF] at hx
    have hxa : x ∈ a := by have := hx.2.2; simp at this; exact this.1
    obtain ⟨j, hj, rfl⟩ := List.getElem_of_mem hxa
    have := ha.bd j hj
    rw [nth_eq hj] at this; omega
  rw [hm, len_sR hI]
  refine sR_congr fun x hx => ?_
  have hmem : (x : Int) ∈ mee a b ↔ (x : Int) ∈ a ∧ (x : Int) ∈ b := by
    unfold mee
    rw [mem_upF]
    simp
    omega
  unfold indP
  by_cases h1 : (x : Int) ∈ a
  · by_cases h2 : (x : Int) ∈ b
    · rw [if_pos (hmem.2 ⟨h1, h2⟩), if_pos h1, if_pos h2]; rfl
    · rw [if_neg (fun h => h2 (hmem.1 h).2), if_pos h1, if_neg h2]; rfl
  · rw [if_neg (fun h => h1 (hmem.1 h).1), if_neg h1]; simp
theorem mtA_mem {A : List (List Int)} {x : Int} : ∀ {k : Nat}, x ∈ mtA A k → ∃ i j, j < i ∧ i < k ∧ x = (mtg (xat A i) (xat A j)).length
  | k + 1, h => by
    rw [mtA] at h
    rcases List.mem_append.1 h with h | h
    · obtain ⟨i, j, h1, h2, h3⟩ := mtA_mem h
      exact ⟨i, j, h1, by omega, h3⟩
    · obtain ⟨j, hj, rfl⟩ := List.mem_map.1 h
      exact ⟨k, j, List.mem_range.1 hj, by omega, rfl⟩
theorem all_one {l : List Int} {c : Int} (hn : l.Nodup) (h : ∀ x ∈ l, x = c) (hne : l ≠ []) : l = [c] := by
  match l, hne with
  | [x], _ => rw [h x List.mem_cons_self]
  | x :: y :: r, _ =>
    exfalso
    have := (List.nodup_cons.1 hn).1
    rw [h x List.mem_cons_self, h y (List.mem_cons_of_mem _ List.mem_cons_self)] at this
    exact this List.mem_cons_self
/-- all that FnDual says of a symmetric balanced design -/
theorem dual_sym {P : Nat} {A : List (List Int)} (hok : dOk P A = true) (hb : prmB P A = true) (hs : A.length = P) :
    prmB A.length (srtL (duaL P A)) = true ∧ prmV A.length (srtL (duaL P A)) = prmV P A ∧ Go.Lib.compact (srt (mtA A A.length)) = [nth (parL P A) 0] := by
  have hD := dOk_t hok
  have hPl := hD.le
  have hb2 := hb
  unfold prmB at hb2
  simp only [Bool.and_eq_true, decide_eq_true_eq, List.all_eq_true] at hb2
  obtain ⟨⟨⟨⟨h1, h2⟩, h3⟩, h4⟩, h5⟩ := hb2
  have hA : ∀ i, i < A.length → Inc P (xat A i) := fun i hi => hD.inc' hi
  have hlen : ∀ i, i < A.length → ((xat A i).length : Int) = (xat A 0).length := fun i hi => by
    have := h4 _ (xat_mem hi); have := beq_iff_eq.1 this; omega
  have hB : Bal P A (xat A 0).length (nth (parL P A) 0) := ⟨hA, hlen, fun x y hx hy hne => by
    rcases Nat.lt_or_gt_of_ne hne with h | h
    · have := h5 (parF A x y) (parL_mem.2 ⟨x, y, h, hy, rfl⟩); exact beq_iff_eq.1 this
    · rw [parF_symm]
      have := h5 (parF A y x) (parL_mem.2 ⟨y, x, h, hx, rfl⟩); exact beq_iff_eq.1 this⟩
  have hk : 2 ≤ ((xat A 0).length : Int) := by omega
  have hrep := hB.repk hk hs h1
  have hmeet := fun i hi => hB.meet (i := i) hk hs h1 hi
  have hXl : (srtL (duaL P A)).length = P := by rw [srtL_len, duaL_len]
  have hblk : ∀ b ∈ srtL (duaL P A), (b.length : Int) = (xat A 0).length := fun b hb' => by
    obtain ⟨x, hx, rfl⟩ := List.mem_map.1 ((srtL_perm _).mem_iff.1 hb')
    rw [dua_repF, hrep x (List.mem_range.1 hx)]
  have h0 : (xat (srtL (duaL P A)) 0).length = (xat A 0).length := by
    have := hblk _ (xat_mem (show 0 < (srtL (duaL P A)).length by omega)); omega
  have hlam : ∀ c ∈ parL A.length (srtL (duaL P A)), c = nth (parL P A) 0 := fun c hc => by
    obtain ⟨i, j, hij, hj, rfl⟩ := parL_mem.1 hc
    rw [dual_par (by omega) hj]
    exact hmeet i (by omega) j hj (by omega)
  have hpos := parL_pos (A := srtL (duaL P A)) (P := A.length) (by omega)
  have hl0 : nth (parL A.length (srtL (duaL P A))) 0 = nth (parL P A) 0 := hlam _ (nth_mem hpos)
  have hpb : prmB A.length (srtL (duaL P A)) = true := prm_yes ⟨by omega, by omega, by rw [h0]; exact h3⟩ (fun k hk => by have := hblk _ (xat_mem hk); omega) (fun k hk => by rw [hl0]; exact hlam _ (nth_mem hk))
  refine ⟨hpb, ?_, ?_⟩
  · rw [prm_val hpb, prm_val hb, hXl, h0, hl0, dual_repL hA h2]
    have hr0 : nth (repL P A) 0 = (xat A 0).length := by
      rw [nth_eq (by rw [repL_len]; omega)]
      simp only [repL, List.getElem_map, List.getElem_range]
      exact hrep 0 (by omega)
    rw [hr0, hs]
  · have hset : ∀ i, i < A.length → IsSet (xat A i) := fun i hi => by
      unfold IsSet
      refine incB_of (fun x hx => ?_) (incB_pw2 (hA i hi))
      have := incB_gt (hD.inc _ (xat_mem hi)) x hx
      omega
    have hall : ∀ x ∈ mtA A A.length, x = nth (parL P A) 0 := fun x hx => by
      obtain ⟨i, j, hji, hi, rfl⟩ := mtA_mem hx
      rw [mtg_sR (by omega) (hA i hi) (hA j (by omega)) (hset i hi) (hset j (by omega))]
      exact hmeet i hi j (by omega) (by omega)
    refine all_one (compact_nodup (msort_up _)) (fun x hx => hall x ?_) ?_
    · have := mem_compact.1 hx
      exact (srt_perm _).mem_iff.1 this
    · intro e
      have hm : ((mtg (xat A 1) (xat A 0)).length : Int) ∈ mtA A A.length := by
        have : ∀ k, 2 ≤ k → ((mtg (xat A 1) (xat A 0)).length : Int) ∈ mtA A k := by
          intro k hk
          induction k with
          | zero => omega
          | succ k ih =>
            rw [mtA]
            by_cases h : 2 ≤ k
            · exact List.mem_append_left _ (ih h)
            · obtain rfl : k = 1 := by omega
              exact List.mem_append_right _ (List.mem_map.2 ⟨0, by simp, rfl⟩)
        exact this _ (by omega)
      have := mem_compact.2 ((srt_perm (mtA A A.length)).mem_iff.2 hm)
      rw [e] at this; cases this
end Go.Proofs.Ytejncephbafcdaa
end
