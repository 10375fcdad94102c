/- The texts of this claim, run 4: Cmp AnyR Src Src2 Drw Arr2 Same Ds2 Mrk DsD F5 PGr Mp. -/
import Derived.Test.YtdgmaodnkbgolaaK2
import Derived.Test.YtdgmaodnkbgolaaK3
import Derived.Deep.RegionHeld3
import Derived.Deep.DrawnRows
import Derived.WalkKit
import Derived.StringKeys
import Derived.Maps.OwnSet
import Derived.Maps.Views
section
/- Comparison of lists: slices.Compare, the reference's CompareLists, slices.IsSortedFunc. -/
namespace Go.Proofs.Ytdgmaodnkbgolaa
set_option linter.unusedSimpArgs false
set_option linter.unusedVariables false
open Go.RowKit

theorem isNaNC_c (x : Int) (w : World) : Calls Try.prog 73 #[.int .i64 x] w fun e w' => e = .returned (.bool false) ∧ w = w' := by
  have h := ne_f (rfl : x = x)
  go_enter Try.func73, Try.ntmps73
  go_wp2_with fail
  go_ret
  exact ⟨rfl, rfl⟩
def cmp1 (x y : Int) : Int := if x < y then -1 else if y < x then 1 else 0
theorem cmpC_c (x y : Int) (w : World) : Calls Try.prog 67 #[.int .i64 x, .int .i64 y] w fun e w' => e = .returned (.int .i64 (cmp1 x y)) ∧ w = w' := by
  by_cases h1 : x < y
  · rw [cmp1, if_pos h1]
    go_enter Try.func67, Try.ntmps67
    go_wp2_with (go_at_call 73; refine (isNaNC_c _ _).mono ?_; rintro e w3 ⟨rfl, rfl⟩)
    go_ret
    exact ⟨rfl, rfl⟩
  · by_cases h2 : y < x
    · rw [cmp1, if_neg h1, if_pos h2]
      go_enter Try.func67, Try.ntmps67
      go_wp2_with (go_at_call 73; refine (isNaNC_c _ _).mono ?_; rintro e w3 ⟨rfl, rfl⟩)
      go_ret
      exact ⟨rfl, rfl⟩
    · rw [cmp1, if_neg h1, if_neg h2]
      go_enter Try.func67, Try.ntmps67
      go_wp2_with (go_at_call 73; refine (isNaNC_c _ _).mono ?_; rintro e w3 ⟨rfl, rfl⟩)
      go_ret
      exact ⟨rfl, rfl⟩
theorem cmpI_drop {xs ys : List Int} {k : Nat} (h1 : k < xs.length) (h2 : k < ys.length) : cmpI (xs.drop k) (ys.drop k) = if cmp1 (nth xs k) (nth ys k) ≠ 0 then cmp1 (nth xs k) (nth ys k) else cmpI (xs.drop (k + 1)) (ys.drop (k + 1)) := by
  rw [drop_nth h1, drop_nth h2, cmpI, cmp1]
  by_cases h : nth xs k < nth ys k
  · rw [if_pos h, if_pos h, if_pos (by omega)]
  · rw [if_neg h, if_neg h]
    by_cases h' : nth ys k < nth xs k
    · rw [if_pos h', if_pos h', if_pos (by omega)]
    · rw [if_neg h', if_neg h', if_neg (by omega)]
theorem cmpI_e1 {xs ys : List Int} {k : Nat} (h1 : k < xs.length) (h2 : ys.length ≤ k) : cmpI (xs.drop k) (ys.drop k) = 1 := by
  rw [drop_nth h1, List.drop_of_length_le h2]; rfl
theorem cmpI_e2 {xs ys : List Int} {k : Nat} (h1 : xs.length ≤ k) (h2 : k < ys.length) : cmpI (xs.drop k) (ys.drop k) = -1 := by
  rw [drop_nth h2, List.drop_of_length_le h1]; rfl
theorem cmpI_e3 {xs ys : List Int} {k : Nat} (h1 : xs.length ≤ k) (h2 : ys.length ≤ k) : cmpI (xs.drop k) (ys.drop k) = 0 := by
  rw [List.drop_of_length_le h2, List.drop_of_length_le h1]; rfl
set_option maxHeartbeats 1000000 in
set_option maxRecDepth 100000 in
theorem Compare_c (va vb : Value) (xs ys : List Int) (w : World) (ha : RdI w va xs) (hb : RdI w vb ys) :
    Calls Try.prog 44 #[va, vb] w fun e w' => e = .returned (.int .i64 (cmpI xs ys)) ∧ w = w' := by
  have hla := ha.len
  have hlb := hb.len
  have hia := ha.ix
  have hib := hb.ix
  have hca := ha.cell
  have hcb := hb.cell
  have hma := ha.le
  have hmb := hb.le
  go_enter Try.func44, Try.ntmps44
  go_wp2_with fail
  go_loop [5, 6, 7, 8, 11] (fun _ _ _ _ i => ∃ k : Nat, k ≤ xs.length ∧ k ≤ ys.length ∧ i = .int .i64 k ∧ Hid (cmpI (xs.drop k) (ys.drop k) = cmpI xs ys)) (fun _ _ _ _ i => xs.length - (intOf i).toNat)
  case atStart => exact ⟨0, by omega, by omega, rfl, rfl⟩
  case round =>
    obtain ⟨k, hk, hk2, rfl, hI⟩ := hrel
    by_cases k1 : k < xs.length
    · by_cases k2 : k < ys.length
      · have hd := cmpI_drop k1 k2
        by_cases hc : cmp1 (nth xs k) (nth ys k) = 0
        · rw [if_neg (by omega), hI.out] at hd
          have HD := Lib.hid hd
          have HC := Lib.hid hc
          clear hd hc
          go_wp2_with (go_at_call 67; refine (cmpC_c _ _ _).mono ?_; rw [HC.out]; rintro e w3 ⟨rfl, rfl⟩)
          go_round
          case rel => exact ⟨k + 1, by omega, by omega, by go_num, HD.out.symm⟩
          case measure => simp [intOf]; omega
        · rw [if_pos hc, hI.out] at hd
          have HD := Lib.hid hd
          clear hd
          go_wp2_with (go_at_call 67; refine (cmpC_c _ _ _).mono ?_; rintro e w3 ⟨rfl, rfl⟩)
          go_ret
          exact ⟨by rw [HD.out]; rfl, rfl⟩
      · have HD := Lib.hid (cmpI_e1 k1 (show ys.length ≤ k by omega))
        rw [hI.out] at HD
        go_wp2_with fail
        go_ret
        exact ⟨by rw [HD.out]; rfl, rfl⟩
    · by_cases k2 : k < ys.length
      · have HD := Lib.hid (cmpI_e2 (show xs.length ≤ k by omega) k2)
        rw [hI.out] at HD
        go_wp2_with fail
        go_ret
        exact ⟨by rw [HD.out]; rfl, rfl⟩
      · have HD := Lib.hid (cmpI_e3 (show xs.length ≤ k by omega) (show ys.length ≤ k by omega))
        rw [hI.out] at HD
        go_wp2_with fail
        go_ret
        exact ⟨by rw [HD.out]; rfl, rfl⟩

set_option maxHeartbeats 1000000 in
set_option maxRecDepth 100000 in
theorem sCompareLists_c (va vb : Value) (xs ys : List Int) (w : World) (ha : RdI w va xs) (hb : RdI w vb ys) :
    Calls Try.prog 57 #[va, vb] w (GivesI w (cmpI xs ys)) := by
  have hla := ha.len
  have hlb := hb.len
  have hia := ha.ix
  have hib := hb.ix
  have hma := ha.le
  have hmb := hb.le
  go_enter Try.func57, Try.ntmps57
  go_wp2_with fail
  go_loopw [5] (fun i wr => ∃ k : Nat, k ≤ xs.length ∧ k ≤ ys.length ∧ i = .int .i64 k ∧ Hid (cmpI (xs.drop k) (ys.drop k) = cmpI xs ys) ∧ St w.heap.size w wr []) (fun i _ => xs.length - (intOf i).toNat)
  case atStart => exact ⟨0, by omega, by omega, rfl, rfl, St.refl w⟩
  case round =>
    obtain ⟨k, hk, hk2, rfl, hI, hS⟩ := hrel
    by_cases k1 : k < xs.length
    · by_cases k2 : k < ys.length
      · have hd := cmpI_drop k1 k2
        rw [hI.out] at hd
        have hqa := fun s : SS w.heap.size w [] => (s.st.oldI ha).cell k k1
        have hqb := fun s : SS w.heap.size w [] => (s.st.oldI hb).cell k k2
        generalize nth xs k = x at *
        generalize nth ys k = y at *
        rcases Int.lt_trichotomy x y with h | h | h
        · have HD : Hid (cmpI xs ys = -1) := by rw [Hid, hd, if_pos (by rw [cmp1, if_pos h]; decide), cmp1, if_pos h]
          clear hd
          go_wp2_with fail
          have hne : Nonempty (SS _ _ _) := ⟨⟨_, hS⟩⟩
          refine wp_region_st (by kernel_rfl) (by kernel_rfl) hS ?_
          repeat (go_big_quiet_step (fail))
          refine wpQuiet_nil ?_
          rintro _ ⟨s2, rfl⟩
          have hS2 := s2.st
          generalize s2.w = w2 at hS2 ⊢
          go_wp2_with fail
          go_ret
          exact ⟨ret_i64 HD.out.symm, hS2⟩
        · subst h
          rw [if_neg (by simp [cmp1])] at hd
          have HD := Lib.hid hd
          clear hd
          have hirr : ¬ x < x := by omega
          go_wp2_with fail
          have hne : Nonempty (SS _ _ _) := ⟨⟨_, hS⟩⟩
          refine wp_region_st (by kernel_rfl) (by kernel_rfl) hS ?_
          repeat (go_big_quiet_step (fail))
          refine wpQuiet_nil ?_
          rintro _ ⟨s2, rfl⟩
          have hS2 := s2.st
          generalize s2.w = w2 at hS2 ⊢
          go_wp2_with fail
          have hne : Nonempty (SS _ _ _) := ⟨⟨_, hS2⟩⟩
          refine wp_region_st (by kernel_rfl) (by kernel_rfl) hS2 ?_
          repeat (go_big_quiet_step (fail))
          refine wpQuiet_nil ?_
          rintro _ ⟨s2, rfl⟩
          have hS3 := s2.st
          generalize s2.w = w3 at hS3 ⊢
          go_wp2_with fail
          go_roundw
          case rel => exact ⟨k + 1, by omega, by omega, by go_num, HD.out.symm, hS3⟩
          case measure => simp [intOf]; omega
        · have hn : ¬ x < y := by omega
          have HD : Hid (cmpI xs ys = 1) := by rw [Hid, hd, if_pos (by rw [cmp1, if_neg hn, if_pos h]; decide), cmp1, if_neg hn, if_pos h]
          clear hd
          go_wp2_with fail
          have hne : Nonempty (SS _ _ _) := ⟨⟨_, hS⟩⟩
          refine wp_region_st (by kernel_rfl) (by kernel_rfl) hS ?_
          repeat (go_big_quiet_step (fail))
          refine wpQuiet_nil ?_
          rintro _ ⟨s2, rfl⟩
          have hS2 := s2.st
          generalize s2.w = w2 at hS2 ⊢
          go_wp2_with fail
          have hne : Nonempty (SS _ _ _) := ⟨⟨_, hS2⟩⟩
          refine wp_region_st (by kernel_rfl) (by kernel_rfl) hS2 ?_
          repeat (go_big_quiet_step (fail))
          refine wpQuiet_nil ?_
          rintro _ ⟨s2, rfl⟩
          have hS3 := s2.st
          generalize s2.w = w3 at hS3 ⊢
          go_wp2_with fail
          go_ret
          exact ⟨ret_i64 HD.out.symm, hS3⟩
      · have HD := Lib.hid (cmpI_e1 k1 (show ys.length ≤ k by omega))
        rw [hI.out] at HD
        go_wp2_with fail
        go_ret
        exact ⟨ret_i64 HD.out.symm, hS⟩
    · by_cases k2 : k < ys.length
      · have HD := Lib.hid (cmpI_e2 (show xs.length ≤ k by omega) k2)
        rw [hI.out] at HD
        go_wp2_with fail
        go_ret
        exact ⟨ret_i64 HD.out.symm, hS⟩
      · have HD := Lib.hid (cmpI_e3 (show xs.length ≤ k by omega) (show ys.length ≤ k by omega))
        rw [hI.out] at HD
        go_wp2_with fail
        go_ret
        exact ⟨ret_i64 HD.out.symm, hS⟩
end Go.Proofs.Ytdgmaodnkbgolaa
end

section
/- Walks: slices.ContainsFunc on rows of integers. -/
namespace Go.Proofs.Ytdgmaodnkbgolaa
set_option linter.unusedSimpArgs false
set_option linter.unusedVariables false
open Go.RowKit

/-! slices.ContainsFunc on rows -/
def anyR (p : List Int → Bool) (xss : List (List Int)) : Bool := xss.any p
def idxR (p : List Int → Bool) (xss : List (List Int)) (k : Nat) : Int := match (xss.drop k).findIdx? p with | some j => (k + j : Nat) | none => -1
theorem idxR_step {p : List Int → Bool} {xs : List (List Int)} {k : Nat} (hk : k < xs.length) (h : p (xat xs k) = false) : idxR p xs k = idxR p xs (k + 1) := by
  unfold idxR
  rw [drop_xat hk, List.findIdx?_cons, h]
  cases (xs.drop (k + 1)).findIdx? p with
  | none => rfl
  | some j => simp; omega
theorem idxR_hit {p : List Int → Bool} {xs : List (List Int)} {k : Nat} (hk : k < xs.length) (h : p (xat xs k) = true) : idxR p xs k = k := by
  unfold idxR; rw [drop_xat hk, List.findIdx?_cons, h]; simp
theorem idxR_end {p : List Int → Bool} {xs : List (List Int)} {k : Nat} (hk : xs.length ≤ k) : idxR p xs k = -1 := by
  unfold idxR; rw [List.drop_of_length_le hk]; rfl
theorem idxR_any {p : List Int → Bool} {xs : List (List Int)} : decide (0 ≤ idxR p xs 0) = anyR p xs := by
  unfold idxR anyR
  rw [List.drop_zero]
  cases h : xs.findIdx? p with
  | none =>
    have hy : xs.any p = false := by
      rw [List.any_eq_false]
      intro x hx
      have := List.findIdx?_eq_none_iff.1 h x hx
      simp [this]
    rw [hy]; simp
  | some j =>
    have hy : xs.any p = true := by
      obtain ⟨hj, hp, _⟩ := List.findIdx?_eq_some_iff_getElem.1 h
      exact List.any_eq_true.2 ⟨_, List.getElem_mem hj, hp⟩
    rw [hy]; simp

set_option maxHeartbeats 1000000 in
set_option maxRecDepth 100000 in
theorem IndexFuncR_c (K : FuncId) (caps : Array Value) (p : List Int → Bool) (v : Value) (us : List Value) (xss : List (List Int)) (w : World) (hv : RII w v us xss)
    (hcf : ∀ (args : Array Value) (W : World), (callFunc K args).run Try.prog W = .ok (.enter K args) W)
    (hK : ∀ (j : Nat) (W : World), St w.heap.size w W [] → j < xss.length → Calls Try.prog K (#[vat us j] ++ caps) W (GivesB W (p (xat xss j)))) :
    Calls Try.prog 54 #[v, .func (.func K) #[] caps] w (GivesI w (idxR p xss 0)) := by
  have HK := Lib.hid hK
  clear hK
  have hln := hv.len
  have hix := hv.ix
  have hm := hv.le
  go_enter Try.func54, Try.ntmps54
  go_wp2_with fail
  go_loopw [5, 8] (fun _ i wr => ∃ k : Nat, k ≤ xss.length ∧ i = .int .i64 k ∧ Hid (idxR p xss 0 = idxR p xss k) ∧ St w.heap.size w wr []) (fun _ i _ => xss.length - (intOf i).toNat)
  case atStart => exact ⟨0, by omega, rfl, rfl, St.refl w⟩
  case round =>
    obtain ⟨k, hk, rfl, hI, hS⟩ := hrel
    by_cases hlt : k < xss.length
    · have hc := (hS.oldII hv).cell k hlt
      go_wp2_with fail
      refine (HK.out _ _ hS hlt).mono ?_
      cases hp : p (xat xss k)
      · have Hp := Lib.hid hp; clear hp
        rintro e w2 ⟨rfl, h2⟩
        have hS2 := hS.call0 h2
        go_wp2_with fail
        go_roundw
        case rel => exact ⟨k + 1, by omega, by go_num, by rw [Hid, hI.out, idxR_step hlt Hp.out], hS2⟩
        case measure => simp [intOf]; omega
      · have Hp := Lib.hid hp; clear hp
        rintro e w2 ⟨rfl, h2⟩
        have hS2 := hS.call0 h2
        go_wp2_with fail
        go_ret
        exact ⟨ret_i64 (by rw [hI.out, idxR_hit hlt Hp.out]), hS2⟩
    · go_wp2_with fail
      go_ret
      exact ⟨ret_i64 (by rw [hI.out, idxR_end (by omega)]), hS⟩
theorem ContainsFuncR_c (K : FuncId) (caps : Array Value) (p : List Int → Bool) (v : Value) (us : List Value) (xss : List (List Int)) (w : World) (hv : RII w v us xss)
    (hcf : ∀ (args : Array Value) (W : World), (callFunc K args).run Try.prog W = .ok (.enter K args) W)
    (hK : ∀ (j : Nat) (W : World), St w.heap.size w W [] → j < xss.length → Calls Try.prog K (#[vat us j] ++ caps) W (GivesB W (p (xat xss j)))) :
    Calls Try.prog 29 #[v, .func (.func K) #[] caps] w (GivesB w (anyR p xss)) := by
  have HK := Lib.hid hK
  clear hK
  go_enter Try.func29, Try.ntmps29
  go_wp2_with fail
  refine (IndexFuncR_c K caps p v us xss w hv hcf HK.out).mono ?_
  rintro e w1 ⟨rfl, h1⟩
  go_wp2_with fail
  go_ret
  exact ⟨ret_bool idxR_any, h1⟩

end Go.Proofs.Ytdgmaodnkbgolaa
end

section
/- The source of choices that the laws draw from. -/
namespace Go.Proofs.Ytdgmaodnkbgolaa
set_option linter.unusedSimpArgs false
set_option linter.unusedVariables false
open Go.RowKit

/-- the cells of some bytes -/
def bv (bs : List UInt8) : List Value := bs.map fun b => Value.int .u8 b.toNat
def RdB (w : World) (v : Value) (bs : List UInt8) : Prop := Rd w v (bv bs)
theorem bv_len (bs : List UInt8) : (bv bs).length = bs.length := by simp [bv]
def bnth (bs : List UInt8) (j : Nat) : Int := ((bs.getD j 0).toNat : Int)
theorem bnth_bd (bs : List UInt8) (j : Nat) : 0 ≤ bnth bs j ∧ bnth bs j ≤ 255 := by
  unfold bnth; have := (bs.getD j 0).toNat_lt; omega
theorem bv_get {bs : List UInt8} {j : Nat} (h : j < bs.length) : (bv bs).getD j undef = .int .u8 (bnth bs j) := by
  simp [bv, bnth, List.getD, List.getElem?_eq_getElem h]

theorem Try.und_bs : Try.prog.underlying 22 = some (.slice 5) := by kernel_rfl
theorem Try.size_b : (Try.prog.info? 5).map (·.size) = some 1 := by kernel_rfl

section
variable {w w' : World} {v : Value} {bs : List UInt8}
theorem RdB.le (h : RdB w v bs) : bs.length ≤ 9223372036854775807 := by have := h.sl.le; rwa [bv_len] at this
theorem RdB.len (h : RdB w v bs) (ty : TypeId) (W : World) : (Builtin.len_ #[22] ty #[v]).run Try.prog W = .ok (.int .i64 bs.length) W := by
  have := run_len_sl (P := Try.prog) h.sl 22 ty Try.und_bs W; rwa [bv_len] at this
theorem RdB.ix (h : RdB w v bs) (k : IntKind) (i : Int) (h0 : 0 ≤ i) (hi : i < bs.length) (W : World) :
    (Instr.indexAt 22 v (.int k i)).run Try.prog W = .ok (.pointer (some (el v i.toNat))) W :=
  run_ix_sl (P := Try.prog) h.sl 22 Try.und_bs Try.size_b k i h0 (by rw [bv_len]; exact hi) W
theorem RdB.cell (h : RdB w v bs) (j : Nat) (hj : j < bs.length) : w.cell? (el v j) = some (.int .u8 (bnth bs j)) := by
  rw [Rd.cell h (by rw [bv_len]; exact hj), bv_get hj]
theorem RdB.keep (h : RdB w v bs) (hb : Below w.heap.size w w') : RdB w' v bs := Rd.keep h hb
theorem RdB.sh (h : RdB w v bs) : ∃ a n c, v = .slice a n c := by obtain ⟨a, c, hv, _⟩ := h.sl; exact ⟨a, _, c, hv⟩
end
theorem St.oldB {w0 w : World} {L : List Ent} {v : Value} {bs : List UInt8} (h : St w0.heap.size w0 w L) (hr : RdB w0 v bs) : RdB w v bs := Rd.keep hr h.below

/-- the source lies at the head of what is owned, at most K bytes were drawn -/
def Src (w0 w : World) (cv : Value) (g : Nat) (K : Nat) (L : List Ent) : Prop :=
  ∃ p seed : Int, 0 ≤ p ∧ p ≤ K ∧ St w0.heap.size w0 w (box 67 g [cv, .int .i64 p, .int .u64 seed] :: L)

def AnInt (lo hi : Int) (R : World → Prop) (e : Ending) (w' : World) : Prop := ∃ x : Int, lo ≤ x ∧ x ≤ hi ∧ e = .returned (.int .i64 x) ∧ R w'

theorem Src.mono {w0 w : World} {cv : Value} {g K K' : Nat} {L : List Ent} (h : Src w0 w cv g K L) (hk : K ≤ K') : Src w0 w cv g K' L := by
  obtain ⟨p, s, h0, h1, h2⟩ := h; exact ⟨p, s, h0, by omega, h2⟩
theorem Src.st {w0 w : World} {cv : Value} {g K : Nat} {L : List Ent} (h : Src w0 w cv g K L) : St w0.heap.size w0 w L := by
  obtain ⟨p, s, h0, h1, h2⟩ := h; exact h2.sub (List.sublist_cons_self _ _)

theorem and255 (x : Int) : 0 ≤ wrap64 (bits BinOp.and IntKind.u64 (IntKind.u64.wrap x / 1099511627776) 255) ∧ wrap64 (bits BinOp.and IntKind.u64 (IntKind.u64.wrap x / 1099511627776) 255) ≤ 255 := by
  have h1 : 0 ≤ IntKind.u64.wrap x / 1099511627776 ∧ IntKind.u64.wrap x / 1099511627776 < 18446744073709551616 := by
    simp [IntKind.wrap, IntKind.bits, IntKind.signed]; omega
  rw [u64_and _ _ h1.1 h1.2 (by omega) (by omega)]
  have e255 : (255 : Int).toNat = 255 := rfl
  have h2 := Nat.and_le_right (n := (IntKind.u64.wrap x / 1099511627776).toNat) (m := (255 : Int).toNat)
  rw [e255] at h2 ⊢
  unfold wrap64
  omega

set_option maxHeartbeats 1000000 in
theorem next_c (w0 w : World) (cv : Value) (bs : List UInt8) (g K : Nat) (L : List Ent) (hb : RdB w0 cv bs) (h : Src w0 w cv g K L) (hK : K < 1099511627776) :
    Calls Try.prog 72 #[.pointer (some ⟨g, 0, none⟩)] w (AnInt 0 255 fun w' => Src w0 w' cv g (K + 1) L) := by
  obtain ⟨p, seed, h0, h1, hS⟩ := h
  obtain ⟨q, rfl⟩ := Int.eq_ofNat_of_zero_le h0
  have hc0 := hS.bcell 0 rfl 0 rfl
  have hc1 := hS.bcell 0 rfl 1 rfl
  have hc2 := hS.bcell 0 rfl 2 rfl
  have hf := hS.bfree 0 rfl
  have hbw := hS.oldB hb
  have hln := hb.len
  have hix := hb.ix
  have hcell := hbw.cell
  have hle := hb.le
  have hbd := bnth_bd bs q
  obtain ⟨hb0, hb1⟩ := hbd
  by_cases hlt : q < bs.length
  · have hlt' : q + 1 ≤ bs.length := hlt
    go_enter Try.func72, Try.ntmps72
    go_wp2_with fail
    go_quiet (fail)
    go_wp2_with fail
    go_quiet (fail)
    go_wp2_with fail
    refine abs_wp (((hS.drewN _).bstore 0 rfl 1 _).bstore 0 rfl 2 _) ?_
    intro w2 hS2
    clear hc0 hc1 hc2 hf
    have hc0 := hS2.bcell 0 rfl 0 rfl
    have hc1 := hS2.bcell 0 rfl 1 rfl
    go_quiet (fail)
    go_wp2_with fail
    go_ret
    exact ⟨_, hb0, hb1, rfl, _, _, by omega, by omega, hS2.drewN _⟩
  · have hlt' : ¬ q + 1 ≤ bs.length := by omega
    go_enter Try.func72, Try.ntmps72
    go_wp2_with fail
    go_quiet (fail)
    go_wp2_with fail
    refine abs_wp (((hS.drewN _).bstore 0 rfl 1 _).bstore 0 rfl 2 _) ?_
    intro w2 hS2
    clear hc0 hc1 hc2 hf
    have hc0 := hS2.bcell 0 rfl 0 rfl
    have hc1 := hS2.bcell 0 rfl 1 rfl
    have hc2 := hS2.bcell 0 rfl 2 rfl
    go_quiet (fail)
    go_wp2_with fail
    go_ret
    exact ⟨_, (and255 _).1, (and255 _).2, rfl, _, _, by omega, by omega, hS2.drewN _⟩

set_option maxHeartbeats 1000000 in
theorem pick_c (w0 w : World) (cv : Value) (bs : List UInt8) (g K : Nat) (L : List Ent) (n : Int) (hb : RdB w0 cv bs) (h : Src w0 w cv g K L) (hK : K < 1000000000000) :
    Calls Try.prog 59 #[.pointer (some ⟨g, 0, none⟩), .int .i64 n] w (AnInt 0 (max (n - 1) 0) fun w' => Src w0 w' cv g (K + 2) L) := by
  by_cases h1 : n ≤ 1
  · go_enter Try.func59, Try.ntmps59
    go_wp2_with fail
    go_ret
    exact ⟨0, by omega, by omega, rfl, h.mono (by omega)⟩
  · by_cases h2 : n ≤ 200
    · go_enter Try.func59, Try.ntmps59
      go_wp2_with fail
      refine (next_c w0 w cv bs g K L hb h (by omega)).mono ?_
      rintro e w1 ⟨x, hx0, hx1, rfl, h3⟩
      go_wp2_with fail
      go_ret
      have := Int.emod_nonneg x (show n ≠ 0 by omega)
      have := Int.emod_lt_of_pos x (show 0 < n by omega)
      exact ⟨_, by omega, by omega, rfl, h3.mono (by omega)⟩
    · go_enter Try.func59, Try.ntmps59
      go_wp2_with fail
      refine (next_c w0 w cv bs g K L hb h (by omega)).mono ?_
      rintro e w1 ⟨x, hx0, hx1, rfl, h3⟩
      go_wp2_with fail
      refine (next_c w0 w1 cv bs g (K + 1) L hb h3 (by omega)).mono ?_
      rintro e w2 ⟨y, hy0, hy1, rfl, h4⟩
      go_wp2_with fail
      go_ret
      have := Int.emod_nonneg (x * 256 + y) (show n ≠ 0 by omega)
      have := Int.emod_lt_of_pos (x * 256 + y) (show 0 < n by omega)
      exact ⟨_, by omega, by omega, rfl, h4.mono (by omega)⟩

/-- one of some numbers: whatever holds of all of them holds of it -/
def AmongPost (xs : List Int) (R : World → Prop) (e : Ending) (w' : World) : Prop := ∃ x ∈ xs, e = .returned (.int .i64 x) ∧ R w'

theorem among_c (w0 w : World) (cv : Value) (bs : List UInt8) (g K : Nat) (L : List Ent) (v : Value) (xs : List Int) (hb : RdB w0 cv bs) (h : Src w0 w cv g K (row 2 v (iv xs) :: L)) (hne : 0 < xs.length)
    (hK : K < 1000000000000) :
    Calls Try.prog 61 #[.pointer (some ⟨g, 0, none⟩), v] w (AmongPost xs fun w' => Src w0 w' cv g (K + 2) L) := by
  have hr : RdI w v xs := by obtain ⟨p, s, h0, h1, h2⟩ := h; exact h2.rdI 1 rfl
  have hln := hr.len
  have hix := hr.ix
  have hle := hr.le
  go_enter Try.func61, Try.ntmps61
  go_wp2_with fail
  refine (pick_c w0 w cv bs g K _ _ hb h hK).mono ?_
  rintro e w1 ⟨x, hx0, hx1, rfl, h3⟩
  obtain ⟨k, rfl⟩ := Int.eq_ofNat_of_zero_le hx0
  have hk : k < xs.length := by omega
  have hr1 : RdI w1 v xs := by obtain ⟨p, s, h0, h1, h2⟩ := h3; exact h2.rdI 1 rfl
  have hc := hr1.cell
  go_wp2_with fail
  go_ret
  obtain ⟨p, s, h0, h1, h2⟩ := h3
  exact ⟨nth xs k, nth_mem hk, rfl, p, s, h0, h1, h2.sub (List.Sublist.cons_cons _ (List.sublist_cons_self _ _))⟩

theorem l00From_c (w : World) (cv : Value) (bs : List UInt8) (hb : RdB w cv bs) :
    Calls Try.prog 17 #[cv] w fun e w' => e = .returned (.pointer (some ⟨w.heap.size, 0, none⟩)) ∧ Src w w' cv w.heap.size 0 [] := by
  obtain ⟨av, n, c, rfl⟩ := hb.sh
  go_enter Try.func17, Try.ntmps17
  go_wp2_with fail
  go_ret
  exact ⟨rfl, 0, 0, by omega, by omega, (St.refl w).newbox _ _⟩
end Go.Proofs.Ytdgmaodnkbgolaa
end

section
/- The source of choices: what lies beside it. -/
namespace Go.Proofs.Ytdgmaodnkbgolaa
set_option linter.unusedSimpArgs false
set_option linter.unusedVariables false
open Go.RowKit

theorem Src.call {w0 w w' : World} {cv : Value} {g K : Nat} {L L' : List Ent} (h : Src w0 w cv g K L) (h' : St w.heap.size w w' L') : Src w0 w' cv g K (L ++ L') := by
  obtain ⟨p, s, h0, h1, hS⟩ := h
  exact ⟨p, s, h0, h1, hS.call h'⟩
theorem Src.sub {w0 w : World} {cv : Value} {g K : Nat} {L L' : List Ent} (h : Src w0 w cv g K L) (h' : L'.Sublist L) : Src w0 w cv g K L' := by
  obtain ⟨p, s, h0, h1, hS⟩ := h
  exact ⟨p, s, h0, h1, hS.sub (h'.cons_cons _)⟩
theorem Src.rdI {w0 w : World} {cv : Value} {g K : Nat} {L : List Ent} (h : Src w0 w cv g K L) (i : Nat) {e : TypeId} {v : Value} {xs : List Int} (hi : L[i]? = some (row e v (iv xs))) : RdI w v xs := by
  obtain ⟨p, s, h0, h1, hS⟩ := h
  exact hS.rdI (i + 1) hi

theorem St.emp0 {w : World} : St w.heap.size w (w.alloc (.cells #[] 2)) [row 2 (.slice (some ⟨w.heap.size, 0, none⟩) 0 0) (iv [])] :=
  (St.refl w).new 2 #[] (by simp)

theorem Src.perm {w0 w : World} {cv : Value} {g K : Nat} {L L' : List Ent} (h : Src w0 w cv g K L) (h' : L.Perm L') : Src w0 w cv g K L' := by
  obtain ⟨p, s, h0, h1, hS⟩ := h
  exact ⟨p, s, h0, h1, hS.perm (h'.cons _)⟩
theorem Src.call0 {w0 w w' : World} {cv : Value} {g K : Nat} {L : List Ent} (h : Src w0 w cv g K L) (h' : St w.heap.size w w' []) : Src w0 w' cv g K L := by
  have := h.call h'; rwa [List.append_nil] at this
theorem Src.rd {w0 w : World} {cv : Value} {g K : Nat} {L : List Ent} (h : Src w0 w cv g K L) (i : Nat) {e : TypeId} {v : Value} {us : List Value} (hi : L[i]? = some (row e v us)) : Rd w v us := by
  obtain ⟨p, s, h0, h1, hS⟩ := h
  exact hS.rd (i + 1) hi
theorem Src.box {w0 w : World} {cv : Value} {g K : Nat} {L : List Ent} (h : Src w0 w cv g K L) (i : Nat) {e : TypeId} {gf : Nat} {us : List Value} (hi : L[i]? = some (Go.Proofs.Ytdgmaodnkbgolaa.box e gf us)) (j : Nat) {u : Value} (hj : us[j]? = some u) : w.cell? ⟨gf, j, none⟩ = some u := by
  obtain ⟨p, s, h0, h1, hS⟩ := h
  exact hS.bcell (i + 1) hi j hj
theorem Src.bfree {w0 w : World} {cv : Value} {g K : Nat} {L : List Ent} (h : Src w0 w cv g K L) (i : Nat) {e : TypeId} {gf : Nat} {us : List Value} (hi : L[i]? = some (Go.Proofs.Ytdgmaodnkbgolaa.box e gf us)) (j : Nat) : w.frozen? ⟨gf, j, none⟩ = false := by
  obtain ⟨p, s, h0, h1, hS⟩ := h
  exact hS.bfree (i + 1) hi j
theorem Src.bstore {w0 w : World} {cv : Value} {g K : Nat} {L : List Ent} (h : Src w0 w cv g K L) (i : Nat) {e : TypeId} {gf : Nat} {us : List Value} (hi : L[i]? = some (Go.Proofs.Ytdgmaodnkbgolaa.box e gf us)) (j : Nat) (u : Value) :
    Src w0 (w.setCell ⟨gf, j, none⟩ u) cv g K (L.set i (Go.Proofs.Ytdgmaodnkbgolaa.box e gf (us.set j u))) := by
  obtain ⟨p, s, h0, h1, hS⟩ := h
  exact ⟨p, s, h0, h1, hS.bstore (i + 1) hi j u⟩
/-- a new block behind a pointer, ahead of the others -/
theorem Src.newboxF {w0 w : World} {cv : Value} {g K : Nat} {L : List Ent} (h : Src w0 w cv g K L) (e : TypeId) (cs : Array Value) : Src w0 (w.alloc (.cells cs e)) cv g K (Go.Proofs.Ytdgmaodnkbgolaa.box e w.heap.size cs.toList :: L) := by
  obtain ⟨p, s, h0, h1, hS⟩ := h
  exact ⟨p, s, h0, h1, (hS.newboxF e cs).perm (List.Perm.swap _ _ _)⟩
theorem Src.drew {w0 w : World} {cv : Value} {g K : Nat} {L : List Ent} (h : Src w0 w cv g K L) : Src w0 w.drew cv g K L := by
  obtain ⟨p, s, h0, h1, hS⟩ := h
  exact ⟨p, s, h0, h1, hS.drew⟩
theorem St.emp0II {w : World} : St w.heap.size w (w.alloc (.cells #[] 32)) [row 32 (.slice (some ⟨w.heap.size, 0, none⟩) 0 0) []] :=
  (St.refl w).new 32 #[] (by simp)
/-- the source, laid behind what there is -/
theorem l00FromS (w0 w : World) (cv : Value) (bs : List UInt8) (L : List Ent) (hb : RdB w0 cv bs) (hS : St w0.heap.size w0 w L) :
    Calls Try.prog 17 #[cv] w fun e w' => ∃ g, e = .returned (.pointer (some ⟨g, 0, none⟩)) ∧ Src w0 w' cv g 0 L :=
  (l00From_c w cv bs (hS.oldB hb)).mono fun e w' ⟨he, p, s, h0, h1, h2⟩ => ⟨_, he, p, s, h0, h1, (hS.call h2).perm List.perm_append_comm⟩
theorem Src.riiS {w0 w : World} {cv : Value} {g K : Nat} {L : List Ent} (h : Src w0 w cv g K L) {v : Value} {us : List Value} {A : List (List Int)} (hs : (own2 v us A).Sublist L) (hl : us.length = A.length) : RII w v us A := (h.st.sub hs).rii hl
end Go.Proofs.Ytdgmaodnkbgolaa
end

section
/- Walks: what the laws on numbers draw. -/
namespace Go.Proofs.Ytdgmaodnkbgolaa
set_option linter.unusedSimpArgs false
set_option linter.unusedVariables false
open Go.RowKit

theorem Src.lit {w0 w : World} {cv : Value} {g K : Nat} {L : List Ent} (h : Src w0 w cv g K L) (xs : List Int) (hm : xs.length ≤ 1000) :
    Src w0 (w.alloc (.cells (iv xs).toArray 2)) cv g K (row 2 (.slice (some ⟨w.heap.size, 0, none⟩) xs.length xs.length) (iv xs) :: L) := by
  obtain ⟨p, s, h0, h1, hS⟩ := h
  refine ⟨p, s, h0, h1, ?_⟩
  have h2 := hS.new 2 (iv xs).toArray (by simp [iv_len]; unfold maxLen; omega)
  simp only [List.size_toArray, iv_len] at h2
  refine h2.perm ?_
  refine List.Perm.trans (List.perm_append_comm) ?_
  simp only [List.cons_append, List.nil_append]
  exact List.Perm.swap _ _ _

/-- one of some numbers that are written out -/
theorem among_lit (xs : List Int) (w0 w : World) (cv : Value) (bs : List UInt8) (g K : Nat) (L : List Ent) (hb : RdB w0 cv bs) (h : Src w0 w cv g K L) (hne : 0 < xs.length ∧ xs.length ≤ 1000)
    (hK : K < 1000000000000) :
    Calls Try.prog 61 #[.pointer (some ⟨g, 0, none⟩), .slice (some ⟨w.heap.size, 0, none⟩) xs.length xs.length] (w.alloc (.cells (iv xs).toArray 2)) (AmongPost xs fun w' => Src w0 w' cv g (K + 2) L) :=
  among_c w0 _ cv bs g K L _ xs hb (h.lit xs hne.2) hne.1 hK

end Go.Proofs.Ytdgmaodnkbgolaa
end

section
/- Walks: arrays by value. Walks: valid arrays, equal arrays. -/
namespace Go.Proofs.Ytdgmaodnkbgolaa
set_option linter.unusedSimpArgs false
set_option linter.unusedVariables false
open Go.RowKit


/-- an array as a value -/
def av (lv co : Int) (v : Value) : Value := .agg #[.int .i64 lv, .int .i64 co, v]

/-- a block that holds an array -/
def BoxA (w : World) (g : Nat) (lv co : Int) (v : Value) : Prop :=
  w.cell? ⟨g, 0, none⟩ = some (.int .i64 lv) ∧ w.cell? ⟨g, 1, none⟩ = some (.int .i64 co) ∧ w.cell? ⟨g, 2, none⟩ = some v
theorem cell_keep {w w' : World} (hb : Below w.heap.size w w') {p : Addr} {u : Value} (h : w.cell? p = some u) : w'.cell? p = some u := by
  rw [hb.cell (World.block_lt_of_cell? _ _ h)]; exact h
theorem BoxA.keep {w w' : World} {g : Nat} {lv co : Int} {v : Value} (h : BoxA w g lv co v) (hb : Below w.heap.size w w') : BoxA w' g lv co v :=
  ⟨cell_keep hb h.1, cell_keep hb h.2.1, cell_keep hb h.2.2⟩
end Go.Proofs.Ytdgmaodnkbgolaa
end

section
/- Walks: equal lists, equal lists of lists, equal arrays. -/
namespace Go.Proofs.Ytdgmaodnkbgolaa
set_option linter.unusedSimpArgs false
set_option linter.unusedVariables false
open Go.RowKit

set_option maxHeartbeats 1000000 in
set_option maxRecDepth 100000 in
theorem l00Same_c (va vb : Value) (xs ys : List Int) (w : World) (ha : RdI w va xs) (hb : RdI w vb ys) :
    Calls Try.prog 51 #[va, vb] w (GivesB w (decide (xs = ys))) := by
  have hla := ha.len
  have hlb := hb.len
  have hia := ha.ix
  have hib := hb.ix
  have hma := ha.le
  by_cases hne : xs.length = ys.length
  · have f0 : ((xs.length : Int) != (ys.length : Int)) = false := ne_f (by omega)
    have hle : xs.length ≤ ys.length := by omega
    have Hne := Lib.hid hne; clear hne
    go_enter Try.func51, Try.ntmps51
    go_wp2_with fail
    go_loopw [5] (fun i wr => ∃ k : Nat, k ≤ xs.length ∧ i = .int .i64 k ∧ Hid (∀ j, j < k → nth xs j = nth ys j) ∧ St w.heap.size w wr []) (fun i _ => xs.length - (intOf i).toNat)
    case atStart => exact ⟨0, by omega, rfl, fun j hj => by omega, St.refl w⟩
    case round =>
      obtain ⟨k, hk, rfl, hI, hS⟩ := hrel
      by_cases hlt : k < xs.length
      · have hqa := fun s : SS w.heap.size w [] => (s.st.oldI ha).cell k hlt
        have hqb := fun s : SS w.heap.size w [] => (s.st.oldI hb).cell k (by omega)
        have hk2 : k < ys.length := by omega
        by_cases h1 : nth xs k = nth ys k
        · have f1 := ne_f h1
          have H1 := Lib.hid h1; clear h1
          go_wp2_with fail
          have hne : Nonempty (SS _ _ _) := ⟨⟨_, hS⟩⟩
          refine wp_region_st (by kernel_rfl) (by kernel_rfl) hS ?_
          repeat (go_big_quiet_step (fail))
          refine wpQuiet_nil ?_
          rintro _ ⟨s2, rfl⟩
          have hS2 := s2.st
          generalize s2.w = w2 at hS2 ⊢
          go_wp2_with fail
          go_roundw
          case rel => exact ⟨k + 1, by omega, by go_num, fun j hj => by
            by_cases e : j = k
            · subst e; exact H1.out
            · exact hI.out j (by omega), hS2⟩
          case measure => simp [intOf]; omega
        · have f1 := ne_t h1
          have H1 := Lib.hid h1; clear h1
          go_wp2_with fail
          have hne : Nonempty (SS _ _ _) := ⟨⟨_, hS⟩⟩
          refine wp_region_st (by kernel_rfl) (by kernel_rfl) hS ?_
          repeat (go_big_quiet_step (fail))
          refine wpQuiet_nil ?_
          rintro _ ⟨s2, rfl⟩
          have hS2 := s2.st
          generalize s2.w = w2 at hS2 ⊢
          go_wp2_with fail
          go_ret
          exact ⟨ret_bool (by symm; rw [decide_eq_false_iff_not]; intro e; subst e; exact H1.out rfl), hS2⟩
      · go_wp2_with fail
        go_ret
        refine ⟨ret_bool ?_, hS⟩
        symm; rw [decide_eq_true_iff]
        apply List.ext_getElem Hne.out
        intro j h1 h2
        have := hI.out j (by omega)
        rwa [nth_eq h1, nth_eq h2] at this
  · have f0 : ((xs.length : Int) != (ys.length : Int)) = true := ne_t (by omega)
    have Hne := Lib.hid hne; clear hne
    go_enter Try.func51, Try.ntmps51
    go_wp2_with fail
    go_ret
    exact ⟨ret_bool (by symm; rw [decide_eq_false_iff_not]; intro e; exact Hne.out (by rw [e])), St.refl w⟩

set_option maxHeartbeats 1000000 in
set_option maxRecDepth 100000 in
theorem Equal_c (va vb : Value) (xs ys : List Int) (w : World) (ha : RdI w va xs) (hb : RdI w vb ys) :
    Calls Try.prog 37 #[va, vb] w (GivesB w (decide (xs = ys))) := by
  have hla := ha.len
  have hlb := hb.len
  have hia := ha.ix
  have hib := hb.ix
  have hma := ha.le
  by_cases hne : xs.length = ys.length
  · have f0 : ((xs.length : Int) != (ys.length : Int)) = false := ne_f (by omega)
    have hle : xs.length ≤ ys.length := by omega
    have Hne := Lib.hid hne; clear hne
    go_enter Try.func37, Try.ntmps37
    go_wp2_with fail
    go_loopw [5, 13] (fun _ i wr => ∃ k : Nat, k ≤ xs.length ∧ i = .int .i64 k ∧ Hid (∀ j, j < k → nth xs j = nth ys j) ∧ St w.heap.size w wr []) (fun _ i _ => xs.length - (intOf i).toNat)
    case atStart => exact ⟨0, by omega, rfl, fun j hj => by omega, St.refl w⟩
    case round =>
      obtain ⟨k, hk, rfl, hI, hS⟩ := hrel
      by_cases hlt : k < xs.length
      · have hqa := fun s : SS w.heap.size w [] => (s.st.oldI ha).cell k hlt
        have hqb := fun s : SS w.heap.size w [] => (s.st.oldI hb).cell k (by omega)
        have hk2 : k < ys.length := by omega
        by_cases h1 : nth xs k = nth ys k
        · have f1 := ne_f h1
          have H1 := Lib.hid h1; clear h1
          go_wp2_with fail
          have hne : Nonempty (SS _ _ _) := ⟨⟨_, hS⟩⟩
          refine wp_region_st (by kernel_rfl) (by kernel_rfl) hS ?_
          repeat (go_big_quiet_step (fail))
          refine wpQuiet_nil ?_
          rintro _ ⟨s2, rfl⟩
          have hS2 := s2.st
          generalize s2.w = w2 at hS2 ⊢
          go_wp2_with fail
          go_roundw
          case rel => exact ⟨k + 1, by omega, by go_num, fun j hj => by
            by_cases e : j = k
            · subst e; exact H1.out
            · exact hI.out j (by omega), hS2⟩
          case measure => simp [intOf]; omega
        · have f1 := ne_t h1
          have H1 := Lib.hid h1; clear h1
          go_wp2_with fail
          have hne : Nonempty (SS _ _ _) := ⟨⟨_, hS⟩⟩
          refine wp_region_st (by kernel_rfl) (by kernel_rfl) hS ?_
          repeat (go_big_quiet_step (fail))
          refine wpQuiet_nil ?_
          rintro _ ⟨s2, rfl⟩
          have hS2 := s2.st
          generalize s2.w = w2 at hS2 ⊢
          go_wp2_with fail
          go_ret
          exact ⟨ret_bool (by symm; rw [decide_eq_false_iff_not]; intro e; subst e; exact H1.out rfl), hS2⟩
      · go_wp2_with fail
        go_ret
        refine ⟨ret_bool ?_, hS⟩
        symm; rw [decide_eq_true_iff]
        apply List.ext_getElem Hne.out
        intro j h1 h2
        have := hI.out j (by omega)
        rwa [nth_eq h1, nth_eq h2] at this
  · have f0 : ((xs.length : Int) != (ys.length : Int)) = true := ne_t (by omega)
    have Hne := Lib.hid hne; clear hne
    go_enter Try.func37, Try.ntmps37
    go_wp2_with fail
    go_ret
    exact ⟨ret_bool (by symm; rw [decide_eq_false_iff_not]; intro e; exact Hne.out (by rw [e])), St.refl w⟩

end Go.Proofs.Ytdgmaodnkbgolaa
end

section
/- Walks: valid designs of both sides, equal designs. -/
namespace Go.Proofs.Ytdgmaodnkbgolaa
set_option linter.unusedSimpArgs false
set_option linter.unusedVariables false
open Go.RowKit

def BoxD (w : World) (g : Nat) (P : Int) (v : Value) : Prop := w.cell? ⟨g, 0, none⟩ = some (.int .i64 P) ∧ w.cell? ⟨g, 1, none⟩ = some v
theorem BoxD.keep {w0 w : World} {g : Nat} {P : Int} {v : Value} (h : BoxD w0 g P v) (hb : Below w0.heap.size w0 w) : BoxD w g P v := by
  obtain ⟨h1, h2⟩ := h
  have hg : g < w0.heap.size := by
    rcases Nat.lt_or_ge g w0.heap.size with h | h
    · exact h
    · rw [World.cell?, Array.getElem?_eq_none h] at h1; cases h1
  exact ⟨by rw [hb.cell hg]; exact h1, by rw [hb.cell hg]; exact h2⟩
set_option maxHeartbeats 1000000 in
set_option maxRecDepth 100000 in
theorem l10Same_c (va vb : Value) (us ws : List Value) (A B : List (List Int)) (w : World) (ha : RII w va us A) (hb : RII w vb ws B) :
    Calls Try.prog 25 #[va, vb] w (GivesB w (decide (A = B))) := by
  have hla := ha.len
  have hlb := hb.len
  have hia := ha.ix
  have hib := hb.ix
  have hma := ha.le
  by_cases hne : A.length = B.length
  · have f0 : ((A.length : Int) != (B.length : Int)) = false := ne_f (by omega)
    have hle : A.length ≤ B.length := by omega
    have Hne := Lib.hid hne; clear hne
    go_enter Try.func25, Try.ntmps25
    go_wp2_with fail
    go_loopw [5] (fun i wr => ∃ k : Nat, k ≤ A.length ∧ i = .int .i64 k ∧ Hid (∀ j, j < k → xat A j = xat B j) ∧ St w.heap.size w wr []) (fun i _ => A.length - (intOf i).toNat)
    case atStart => exact ⟨0, by omega, rfl, fun j hj => by omega, St.refl w⟩
    case round =>
      obtain ⟨k, hk, rfl, hI, hS⟩ := hrel
      by_cases hlt : k < A.length
      · have hqa := fun s : SS w.heap.size w [] => (s.st.oldII ha).cell k hlt
        have hqb := fun s : SS w.heap.size w [] => (s.st.oldII hb).cell k (by omega)
        have Ra := Lib.hid fun s : SS w.heap.size w [] => (s.st.oldII ha).row k hlt
        have Rb := Lib.hid fun s : SS w.heap.size w [] => (s.st.oldII hb).row k (by omega)
        have hk2 : k < B.length := by omega
        cases h1 : decide (xat A k = xat B k)
        · have H1 := Lib.hid h1
          go_wp2_with fail
          have hne : Nonempty (SS _ _ _) := ⟨⟨_, hS⟩⟩
          refine wp_region_st (by kernel_rfl) (by kernel_rfl) hS ?_
          repeat (go_big_quiet_step ((go_at_call 51; exact st_quiet (l00Same_c _ _ _ _ _ (Ra.out _) (Rb.out _)))))
          refine wpQuiet_nil ?_
          rintro _ ⟨s2, rfl⟩
          have hS2 := s2.st
          generalize s2.w = w2 at hS2 ⊢
          rw [h1]
          clear h1
          go_wp2_with fail
          go_ret
          exact ⟨ret_bool (by symm; rw [decide_eq_false_iff_not]; intro e; subst e; exact of_decide_eq_false H1.out rfl), hS2⟩
        · have H1 := Lib.hid h1
          go_wp2_with fail
          have hne : Nonempty (SS _ _ _) := ⟨⟨_, hS⟩⟩
          refine wp_region_st (by kernel_rfl) (by kernel_rfl) hS ?_
          repeat (go_big_quiet_step ((go_at_call 51; exact st_quiet (l00Same_c _ _ _ _ _ (Ra.out _) (Rb.out _)))))
          refine wpQuiet_nil ?_
          rintro _ ⟨s2, rfl⟩
          have hS2 := s2.st
          generalize s2.w = w2 at hS2 ⊢
          rw [h1]
          clear h1
          go_wp2_with fail
          go_roundw
          case rel => exact ⟨k + 1, by omega, by go_num, fun j hj => by
            by_cases e : j = k
            · subst e; exact of_decide_eq_true H1.out
            · exact hI.out j (by omega), hS2⟩
          case measure => simp [intOf]; omega
      · go_wp2_with fail
        go_ret
        refine ⟨ret_bool ?_, hS⟩
        symm
        rw [decide_eq_true_iff]
        refine List.ext_getElem Hne.out fun j h1 h2 => ?_
        have := hI.out j (by omega)
        rwa [xat_eq h1, xat_eq h2] at this
  · have f0 : ((A.length : Int) != (B.length : Int)) = true := ne_t (by omega)
    have Hne := Lib.hid hne; clear hne
    go_enter Try.func25, Try.ntmps25
    go_wp2_with fail
    go_ret
    exact ⟨ret_bool (by symm; rw [decide_eq_false_iff_not]; intro e; exact Hne.out (by rw [e])), St.refl w⟩
end Go.Proofs.Ytdgmaodnkbgolaa
end

section
/- Walks: marks into memory that one owns, and what it holds. -/
namespace Go.Proofs.Ytdgmaodnkbgolaa
set_option linter.unusedSimpArgs false
set_option linter.unusedVariables false
open Go.RowKit

theorem rii2 {B : Nat} {w0 w : World} {v : Value} {us : List Value} {xss : List (List Int)} {L2 : List Ent} (h : St B w0 w (own2 v us xss ++ L2)) (hl : us.length = xss.length) : RII w v us xss := (h.sub (List.sublist_append_left _ _)).rii hl

end Go.Proofs.Ytdgmaodnkbgolaa
end

section
/- Walks: the reference's sorting of blocks. -/
namespace Go.Proofs.Ytdgmaodnkbgolaa
set_option linter.unusedSimpArgs false
set_option linter.unusedVariables false
open Go.RowKit
attribute [local go_sem ↓] Go.wp_at_zero Go.wp_at_succ

section
variable {a : Act} {w : World} {Q : Exit → Act → World → Prop} {ops : Array Oper} {rest : List Oper} {o : Oper} {B : Nat} {w0 : World} {L : List Ent}
/-- append of the slices of a slice to an owned row of slices -/
theorem appsII2 (hS : St B w0 w L) (i : Nat) {v : Value} {us : List Value} (hi : L[i]? = some (row 32 v us)) (vx : Value) (ws : List Value) (hr : Rd w vx ws) (h1 : ∀ u ∈ ws, u.oneCell' = true) (hN : us.length + ws.length ≤ 4294967296) (hg : o.guard = none) (s x : Operand)
    (hop : o.op = .call { callee := .builtin .append, args := #[s, x], argTypes := #[24, 24] }) (hs : a.eval s = v) (hx : a.eval x = vx)
    (hK : ∀ v' w', St B w0 w' (L.set i (row 32 v' (us ++ ws))) → wpList Try.prog ops Q rest (a.put o.dst v') w') :
    wpList Try.prog ops Q (o :: rest) a w :=
  wpList_st_apps hg s x 24 hop 32 (.slice none 0 0) 24 Try.und_iss Try.info_is rfl hS i hi hs vx hx ws hr h1 (by omega) hN hK
end
theorem rslII_lo2 {w : World} {v : Value} {us : List Value} (h : Rd w v us) (lo : Nat) (h2 : lo ≤ us.length) (W : World) :
    (Instr.slice 24 v (some (.int .i64 (lo : Int))) none none).run Try.prog W = .ok (rsl v lo us.length) W := by
  obtain ⟨⟨a, cap, rfl, hc1, hc2, ha⟩, hcell⟩ := h
  rw [run_slice_l W 24 a _ cap und_elem_iis .i64 lo (by omega) (by omega), run_size_elemII]
  rfl
theorem ins_srt {A S : List (List Int)} {k m : Nat} (hk : k < A.length) (hm : m ≤ S.length) (hS : S = srtL (A.take k) ∧ (∀ j, j < m → leL (xat S j) (xat A k) = true)) (h2 : ∀ j, m ≤ j → j < S.length → leL (xat A k) (xat S j) = true) :
    S.take m ++ [xat A k] ++ S.drop m = srtL (A.take (k + 1)) := by
  obtain ⟨hS, h1⟩ := hS
  refine srtL_eq ?_ ?_
  · have p1 : (S.take m ++ [xat A k] ++ S.drop m).Perm (xat A k :: S) := by
      have : (S.take m ++ [xat A k] ++ S.drop m).Perm (xat A k :: (S.take m ++ S.drop m)) := by
        rw [List.append_assoc]; exact List.perm_middle
      rwa [List.take_append_drop] at this
    refine p1.trans ?_
    rw [take_xat hk, hS]
    exact ((srtL_perm _).cons _).trans (List.perm_append_comm (l₁ := [xat A k]))
  · have hpw : S.Pairwise fun a b => leL a b = true := by rw [hS]; exact srtL_pw _
    have hcut : (S.take m ++ S.drop m).Pairwise fun a b => leL a b = true := by rw [List.take_append_drop]; exact hpw
    obtain ⟨c1, c2, c3⟩ := List.pairwise_append.1 hcut
    have m1 : ∀ x ∈ S.take m, leL x (xat A k) = true := fun x hx => by
      obtain ⟨j, hj, rfl⟩ := List.getElem_of_mem hx
      have hjm : j < m := by simp at hj; omega
      rw [List.getElem_take, ← xat_eq]; exact h1 j hjm
    have m2 : ∀ x ∈ S.drop m, leL (xat A k) x = true := fun x hx => by
      obtain ⟨j, hj, rfl⟩ := List.getElem_of_mem hx
      have hjm : m + j < S.length := by simp at hj; omega
      rw [List.getElem_drop, ← xat_eq hjm]; exact h2 (m + j) (by omega) hjm
    rw [List.append_assoc]
    refine List.pairwise_append.2 ⟨c1, List.pairwise_cons.2 ⟨m2, c2⟩, fun x hx y hy => ?_⟩
    rcases List.mem_append.1 hy with hy | hy
    · obtain rfl := List.mem_singleton.1 hy; exact m1 x hx
    · exact c3 x hx y hy
theorem rows_ins {us : List Value} {S : List (List Int)} (hl : us.length = S.length) {m : Nat} (hm : m ≤ S.length) (u : Value) (b : List Int) :
    (rowsI us S ++ [row 2 u (iv b)]).Perm (rowsI (us.take m ++ [u] ++ us.drop m) (S.take m ++ [b] ++ S.drop m)) := by
  have e1 : rowsI us S = rowsI (us.take m) (S.take m) ++ rowsI (us.drop m) (S.drop m) := by
    unfold rowsI
    rw [← List.zipWith_append (by simp [hl]), List.take_append_drop, List.take_append_drop]
  have e2 : rowsI (us.take m ++ [u] ++ us.drop m) (S.take m ++ [b] ++ S.drop m) = rowsI (us.take m) (S.take m) ++ [row 2 u (iv b)] ++ rowsI (us.drop m) (S.drop m) := by
    unfold rowsI
    rw [List.zipWith_append (by simp [hl]), List.zipWith_append (by simp [hl])]; rfl
  rw [e1, e2, List.append_assoc, List.append_assoc]
  exact (List.perm_append_comm).append_left _
set_option maxHeartbeats 8000000 in
set_option maxRecDepth 100000 in
theorem l10Sort_c (v : Value) (us : List Value) (A : List (List Int)) (w : World) (hv : RII w v us A) (hN : A.length ≤ 1000) (hNr : ∀ xs ∈ A, xs.length ≤ 1048576) :
    Calls Try.prog 43 #[v] w (MakesII w (srtL A)) := by
  have hln := hv.len
  have hixe := hv.ixe
  have hNr := Lib.hid hNr
  have hS1 := St.emp0II (w := w)
  go_enter Try.func43, Try.ntmps43
  go_wp2_with fail
  go_loopw [3, 4, 5, 6] (fun o i _ _ wr => ∃ (k : Nat) (uo : List Value), k ≤ A.length ∧ i = .int .i64 k ∧ Hid (uo.length = (srtL (A.take k)).length) ∧ St w.heap.size w wr (own2 o uo (srtL (A.take k)))) (fun _ i _ _ _ => A.length - (intOf i).toNat)
  case atStart => exact ⟨0, [], by omega, rfl, rfl, hS1⟩
  case round =>
    clear hS1
    obtain ⟨k, uo, hk, rfl, hlo, hS⟩ := hrel
    have hlS : (srtL (A.take k)).length = k := by rw [srtL_len, List.length_take]; omega
    by_cases hlt : k < A.length
    · have hA0 := Lib.hid (show srtL (A.take k) = srtL (A.take k) from rfl)
      have HS0 : ∃ S, S = srtL (A.take k) := ⟨_, rfl⟩
      obtain ⟨S, hSe⟩ := HS0
      rw [← hSe] at hS hlo hlS
      have Hpw := Lib.hid (show S.Pairwise fun a b => leL a b = true by rw [hSe]; exact srtL_pw _)
      have HSe := Lib.hid hSe
      clear hSe hA0
      have hR0 := rii2 (L2 := []) (by rw [List.append_nil]; exact hS) hlo.out
      have hxo := hR0.ixe
      have hlno := hR0.len
      have xk := hixe (k : Int) k rfl hlt
      clear hR0
      go_wp2_with fail
      go_loopw [5] (fun q wr => ∃ m : Nat, m ≤ S.length ∧ q = .int .i64 m ∧ Hid (∀ j, m ≤ j → j < S.length → leL (xat A k) (xat S j) = true) ∧ St w.heap.size w wr (own2 u3 uo S)) (fun q _ => (intOf q).toNat)
      case atStart => exact ⟨S.length, by omega, by rw [hlS], fun j h1 h2 => by omega, hS⟩
      case round =>
        clear hS
        obtain ⟨m, hm, rfl, hI, hS⟩ := hrel
        by_cases hm0 : 0 < m
        · obtain ⟨p, hp⟩ : ∃ p, p + 1 = m := ⟨m - 1, by omega⟩
          have hpl : p < S.length := by omega
          have Rp := Lib.hid fun s : SS w.heap.size w (own2 u3 uo S) => (rii2 (L2 := []) (by rw [List.append_nil]; exact s.st) hlo.out).row p hpl
          have Rk := Lib.hid fun s : SS w.heap.size w (own2 u3 uo S) => (s.st.oldII hv).row k hlt
          have qp := fun s : SS w.heap.size w (own2 u3 uo S) => (rii2 (L2 := []) (by rw [List.append_nil]; exact s.st) hlo.out).cell p hpl
          have qk := fun s : SS w.heap.size w (own2 u3 uo S) => (s.st.oldII hv).cell k hlt
          have xp := hxo ((m : Int) - 1) p (by omega) hpl
          have hw : IntKind.i64.wrap ((m : Int) - 1) = (m : Int) - 1 := IntWalk.i64_in _ (by omega)
          have Hp := Lib.hid hp
          clear hp
          cases hc : leL (xat S p) (xat A k)
          · have hgt : 0 < cmpI (xat S p) (xat A k) := by have := of_decide_eq_false hc; omega
            have Hle := Lib.hid (show leL (xat A k) (xat S p) = true from by
              have := cmpI_neg (xat S p) (xat A k)
              exact decide_eq_true (by omega))
            clear hc
            go_wp2_with fail
            have hne : Nonempty (SS _ _ _) := ⟨⟨_, hS⟩⟩
            refine wp_region_st (by kernel_rfl) (by kernel_rfl) hS ?_
            repeat (go_big_quiet_step ((go_at_call 57; exact st_quiet (sCompareLists_c _ _ _ _ _ (Rp.out _) (Rk.out _)))))
            refine wpQuiet_nil ?_
            rintro _ ⟨s2, rfl⟩
            have hS2 := s2.st
            generalize s2.w = w2 at hS2 ⊢
            go_wp2_with fail
            go_roundw
            case rel => exact ⟨p, by omega, by rw [← Hp.out]; go_num, fun j h1 h2 => by
              by_cases e : j = p
              · rw [e]; exact Hle.out
              · exact hI.out j (by have := Hp.out; omega) h2, hS2⟩
            case measure => have := Hp.out; simp [intOf]; omega
          · have hgt : ¬ 0 < cmpI (xat S p) (xat A k) := by have := of_decide_eq_true hc; omega
            have hA1 : S = srtL (A.take k) ∧ (∀ j, j < m → leL (xat S j) (xat A k) = true) := ⟨HSe.out, fun j hj => by
              by_cases e : j = p
              · rw [e]; exact hc
              · have h3 := List.pairwise_iff_getElem.1 Hpw.out j p (by omega) hpl (by have := Hp.out; omega)
                rw [← xat_eq, ← xat_eq] at h3
                exact leL_trans _ _ _ h3 hc⟩
            have HA1 := Lib.hid hA1
            clear hA1 hc
            go_wp2_with fail
            have hne : Nonempty (SS _ _ _) := ⟨⟨_, hS⟩⟩
            refine wp_region_st (by kernel_rfl) (by kernel_rfl) hS ?_
            repeat (go_big_quiet_step ((go_at_call 57; exact st_quiet (sCompareLists_c _ _ _ _ _ (Rp.out _) (Rk.out _)))))
            refine wpQuiet_nil ?_
            rintro _ ⟨s2, rfl⟩
            have hS2 := s2.st
            generalize s2.w = w2 at hS2 ⊢
            clear hS qp qk Rp Rk
            have hone := Lib.hid (fun u (hu : u ∈ uo) => (show u.oneCell' = true by
              obtain ⟨j, hj, rfl⟩ := List.getElem_of_mem hu
              rw [← vat_eq hj]
              exact ((rii2 (L2 := []) (by rw [List.append_nil]; exact hS2) hlo.out).row j (by rw [← hlo.out]; exact hj)).sl.one))
            have hrd := hS2.rd 0 (e := 32) (v := u3) (us := uo) rfl
            have hsl := rslII_hi hrd m (by rw [hlo.out]; omega)
            have hsl2 := rslII_lo2 hrd m (by rw [hlo.out]; omega)
            rw [hlo.out] at hsl2
            have hrk := Lib.hid ((hS2.oldII hv).row k hlt)
            have hk1 := (hS2.oldII hv).cell k hlt
            have hS3 := (hS2.new 32 #[] (by simp)).perm List.perm_append_comm
            simp only [List.cons_append, List.nil_append] at hS3
            have Hrd := Lib.hid (hS3.rd 1 (e := 32) (v := u3) (us := uo) rfl)
            clear hrd
            go_wp2_with (at_builtin; refine appsII2 hS3 0 rfl _ _ (rsl_Rd Hrd.out (Nat.zero_le m) (by rw [hlo.out]; omega)) (fun u hu => hone.out u (List.mem_of_mem_take (List.mem_of_mem_drop hu))) (by simp [hlo.out]; omega) rfl _ _ rfl rfl rfl ?_; intro v4 w4 hS4; have hk4 := (hS4.oldII hv).cell k hlt)
            have hrk4 := (hS4.oldII hv).row k hlt
            refine (l00Own_c _ _ _ hrk4 (hNr.out _ (xat_mem hlt))).mono ?_
            rintro e w5 ⟨u5, rfl, h5⟩
            obtain ⟨ua, uc, hle⟩ := (h5.rdI 0 rfl).sl.sh
            rw [iv_len] at hle
            subst hle
            have hS5 := hS4.call h5
            simp only [List.set_cons_zero, List.cons_append, List.nil_append, List.drop_zero] at hS5
            have hl5 := Lib.hid (show (uo.take m).length = m by rw [List.length_take, hlo.out]; omega)
            clear hS3 hS4 h5 hrk4 hk4
            have hN5 : (uo.take m).length < 4294967296 := (by rw [hl5.out]; omega)
            have hN5 := Lib.hid hN5
            go_wp2_with (first | (at_builtin; refine appsII2 hS6 0 rfl _ _ hrd6.out hone6.out hN6.out rfl _ _ rfl rfl rfl ?_; intro v7 w7 hS7) | (at_builtin; refine appII hS5 0 rfl hN5.out rfl _ _ rfl rfl _ rfl rfl ?_; intro v6 w6 hS6; simp only [List.set_cons_zero] at hS6; have hrd6 := Lib.hid (rsl_Rd (hS6.rd 1 (e := 32) (v := u3) (us := uo) rfl) (lo := m) (hi := k) (by omega) (by rw [hlo.out]; omega)); have hone6 := Lib.hid (fun u (hu : u ∈ (uo.take k).drop m) => hone.out u (List.mem_of_mem_take (List.mem_of_mem_drop hu))); have hN6 := Lib.hid (show (uo.take m ++ [Value.slice ua (xat A k).length uc]).length + ((uo.take k).drop m).length ≤ 4294967296 by simp only [List.length_append, List.length_drop, List.length_take, List.length_singleton, hlo.out]; omega)))
            simp only [List.set_cons_zero] at hS7
            go_roundw
            case rel =>
              refine ⟨k + 1, uo.take m ++ [.slice ua (xat A k).length uc] ++ uo.drop m, by omega, by go_num, by rw [Hid, srtL_len, List.length_take]; simp [hlo.out]; omega, ?_⟩
              have he := ins_srt hlt hm HA1.out hI.out
              rw [← he]
              rw [show (uo.take k).drop m = uo.drop m by rw [← hlS, ← hlo.out, List.take_length]] at hS7
              have hp := hS7.sub (L' := row 32 v7 (uo.take m ++ [.slice ua (xat A k).length uc] ++ uo.drop m) :: (rowsI uo S ++ [row 2 (.slice ua (xat A k).length uc) (iv (xat A k))])) ((List.sublist_cons_self _ _).cons_cons _)
              refine hp.perm ?_
              unfold own2
              refine List.Perm.cons _ ?_
              exact rows_ins hlo.out hm _ _
            case measure => simp [intOf]; omega
        · have HA1 := Lib.hid (show S = srtL (A.take k) ∧ (∀ j, j < m → leL (xat S j) (xat A k) = true) from ⟨HSe.out, fun j hj => by omega⟩)
          go_wp2_with fail
          have hne : Nonempty (SS _ _ _) := ⟨⟨_, hS⟩⟩
          refine wp_region_st (by kernel_rfl) (by kernel_rfl) hS ?_
          repeat (go_big_quiet_step (fail))
          refine wpQuiet_nil ?_
          rintro _ ⟨s2, rfl⟩
          have hS2 := s2.st
          generalize s2.w = w2 at hS2 ⊢
          clear hS
          have hone := Lib.hid (fun u (hu : u ∈ uo) => (show u.oneCell' = true by
            obtain ⟨j, hj, rfl⟩ := List.getElem_of_mem hu
            rw [← vat_eq hj]
            exact ((rii2 (L2 := []) (by rw [List.append_nil]; exact hS2) hlo.out).row j (by rw [← hlo.out]; exact hj)).sl.one))
          have hrd := hS2.rd 0 (e := 32) (v := u3) (us := uo) rfl
          have hsl := rslII_hi hrd m (by rw [hlo.out]; omega)
          have hsl2 := rslII_lo2 hrd m (by rw [hlo.out]; omega)
          rw [hlo.out] at hsl2
          have hrk := Lib.hid ((hS2.oldII hv).row k hlt)
          have hk1 := (hS2.oldII hv).cell k hlt
          have hS3 := (hS2.new 32 #[] (by simp)).perm List.perm_append_comm
          simp only [List.cons_append, List.nil_append] at hS3
          have Hrd := Lib.hid (hS3.rd 1 (e := 32) (v := u3) (us := uo) rfl)
          clear hrd
          go_wp2_with (at_builtin; refine appsII2 hS3 0 rfl _ _ (rsl_Rd Hrd.out (Nat.zero_le m) (by rw [hlo.out]; omega)) (fun u hu => hone.out u (List.mem_of_mem_take (List.mem_of_mem_drop hu))) (by simp [hlo.out]; omega) rfl _ _ rfl rfl rfl ?_; intro v4 w4 hS4; have hk4 := (hS4.oldII hv).cell k hlt)
          have hrk4 := (hS4.oldII hv).row k hlt
          refine (l00Own_c _ _ _ hrk4 (hNr.out _ (xat_mem hlt))).mono ?_
          rintro e w5 ⟨u5, rfl, h5⟩
          obtain ⟨ua, uc, hle⟩ := (h5.rdI 0 rfl).sl.sh
          rw [iv_len] at hle
          subst hle
          have hS5 := hS4.call h5
          simp only [List.set_cons_zero, List.cons_append, List.nil_append, List.drop_zero] at hS5
          have hl5 := Lib.hid (show (uo.take m).length = m by rw [List.length_take, hlo.out]; omega)
          clear hS3 hS4 h5 hrk4 hk4
          have hN5 : (uo.take m).length < 4294967296 := (by rw [hl5.out]; omega)
          have hN5 := Lib.hid hN5
          go_wp2_with (first | (at_builtin; refine appsII2 hS6 0 rfl _ _ hrd6.out hone6.out hN6.out rfl _ _ rfl rfl rfl ?_; intro v7 w7 hS7) | (at_builtin; refine appII hS5 0 rfl hN5.out rfl _ _ rfl rfl _ rfl rfl ?_; intro v6 w6 hS6; simp only [List.set_cons_zero] at hS6; have hrd6 := Lib.hid (rsl_Rd (hS6.rd 1 (e := 32) (v := u3) (us := uo) rfl) (lo := m) (hi := k) (by omega) (by rw [hlo.out]; omega)); have hone6 := Lib.hid (fun u (hu : u ∈ (uo.take k).drop m) => hone.out u (List.mem_of_mem_take (List.mem_of_mem_drop hu))); have hN6 := Lib.hid (show (uo.take m ++ [Value.slice ua (xat A k).length uc]).length + ((uo.take k).drop m).length ≤ 4294967296 by simp only [List.length_append, List.length_drop, List.length_take, List.length_singleton, hlo.out]; omega)))
          simp only [List.set_cons_zero] at hS7
          go_roundw
          case rel =>
            refine ⟨k + 1, uo.take m ++ [.slice ua (xat A k).length uc] ++ uo.drop m, by omega, by go_num, by rw [Hid, srtL_len, List.length_take]; simp [hlo.out]; omega, ?_⟩
            have he := ins_srt hlt hm HA1.out hI.out
            rw [← he]
            rw [show (uo.take k).drop m = uo.drop m by rw [← hlS, ← hlo.out, List.take_length]] at hS7
            have hp := hS7.sub (L' := row 32 v7 (uo.take m ++ [.slice ua (xat A k).length uc] ++ uo.drop m) :: (rowsI uo S ++ [row 2 (.slice ua (xat A k).length uc) (iv (xat A k))])) ((List.sublist_cons_self _ _).cons_cons _)
            refine hp.perm ?_
            unfold own2
            refine List.Perm.cons _ ?_
            exact rows_ins hlo.out hm _ _
          case measure => simp [intOf]; omega
    · obtain rfl : k = A.length := by omega
      rw [List.take_length] at hS hlo
      go_wp2_with fail
      go_ret
      exact ⟨_, uo, rfl, hlo.out, hS⟩
end Go.Proofs.Ytdgmaodnkbgolaa
end

section
/- Walks: a list found by halves, and put into a list of lists, of the reference. -/
namespace Go.Proofs.Ytdgmaodnkbgolaa
set_option linter.unusedSimpArgs false
set_option linter.unusedVariables false
open Go.RowKit
attribute [local go_sem ↓] Go.wp_at_zero Go.wp_at_succ

/-- strictly ascending -/
def StrA (A : List (List Int)) : Prop := A.Pairwise fun a b => cmpI a b < 0
/-- what a search by halves tells -/
def FndP (A : List (List Int)) (p : List Int) (at' : Nat) (b : Bool) : Prop :=
  at' ≤ A.length ∧ (b = true → at' < A.length ∧ xat A at' = p) ∧ (b = false → StrA A → (∀ j, j < at' → cmpI (xat A j) p < 0) ∧ ∀ j, at' ≤ j → j < A.length → 0 < cmpI (xat A j) p)
def GivesF (w : World) (A : List (List Int)) (p : List Int) (e : Ending) (w' : World) : Prop := ∃ (at' : Nat) (b : Bool), e = .returned (.tuple #[.int .i64 at', .bool b]) ∧ FndP A p at' b ∧ St w.heap.size w w' []
theorem cmpI_tlt {a b c : List Int} (h1 : cmpI a b < 0) (h2 : cmpI b c < 0) : cmpI a c < 0 := by
  have h3 := cmpI_trans (a := a) (b := b) (c := c) (by omega) (by omega)
  have h4 : cmpI a c ≠ 0 := fun e => by
    have := cmpI_eq e
    subst this
    have := cmpI_neg a b
    omega
  omega
theorem StrA.at' {A : List (List Int)} (h : StrA A) {i j : Nat} (hij : i < j) (hj : j < A.length) : cmpI (xat A i) (xat A j) < 0 := by
  have := List.pairwise_iff_getElem.1 h i j (by omega) hj hij
  rw [xat_eq (by omega), xat_eq hj]; exact this
theorem FndP.mem {A : List (List Int)} {p : List Int} {at' : Nat} {b : Bool} (h : FndP A p at' b) (hA : StrA A) (hp : p ∈ A) : b = true ∧ at' < A.length ∧ xat A at' = p := by
  cases b
  · obtain ⟨h1, h2⟩ := h.2.2 rfl hA
    obtain ⟨j, hj, e⟩ := List.getElem_of_mem hp
    rw [← xat_eq hj] at e
    rcases Nat.lt_or_ge j at' with hl | hg
    · have := h1 j hl
      rw [e, cmpI_self] at this; omega
    · have := h2 j hg hj
      rw [e, cmpI_self] at this; omega
  · exact ⟨rfl, h.2.1 rfl⟩
/-- a list put at its place -/
def insA (A : List (List Int)) (at' : Nat) (p : List Int) : List (List Int) := A.take at' ++ [p] ++ A.drop at'
theorem insA_mem {A : List (List Int)} {at' : Nat} {p z : List Int} : z ∈ insA A at' p ↔ z = p ∨ z ∈ A := by
  unfold insA
  have : z ∈ A ↔ z ∈ A.take at' ∨ z ∈ A.drop at' := by rw [← List.mem_append, List.take_append_drop]
  rw [this]
  simp only [List.mem_append, List.mem_singleton]
  constructor
  · rintro ((h | h) | h)
    · exact .inr (.inl h)
    · exact .inl h
    · exact .inr (.inr h)
  · rintro (h | h | h)
    · exact .inl (.inr h)
    · exact .inl (.inl h)
    · exact .inr h
theorem insA_len {A : List (List Int)} {at' : Nat} {p : List Int} (h : at' ≤ A.length) : (insA A at' p).length = A.length + 1 := by
  unfold insA; simp only [List.length_append, List.length_take, List.length_drop, List.length_singleton]; omega
theorem FndP.ins {A : List (List Int)} {p : List Int} {at' : Nat} (h : FndP A p at' false) (hA : StrA A) : StrA (insA A at' p) := by
  obtain ⟨h1, h2⟩ := h.2.2 rfl hA
  unfold StrA insA
  rw [List.append_assoc, List.pairwise_append]
  refine ⟨hA.sublist (List.take_sublist _ _), ?_, ?_⟩
  · rw [List.singleton_append, List.pairwise_cons]
    refine ⟨fun z hz => ?_, hA.sublist (List.drop_sublist _ _)⟩
    obtain ⟨j, hj, e⟩ := List.getElem_of_mem hz
    rw [List.getElem_drop] at e
    rw [List.length_drop] at hj
    have := h2 (at' + j) (by omega) (by omega)
    rw [xat_eq (by omega), e] at this
    have := cmpI_neg z p
    omega
  · intro a ha b hb
    obtain ⟨i, hi, e⟩ := List.getElem_of_mem ha
    rw [List.length_take] at hi
    rw [List.getElem_take] at e
    have ha2 := h1 i (by omega)
    rw [xat_eq (by omega), e] at ha2
    rcases List.mem_append.1 hb with hb | hb
    · rw [List.mem_singleton.1 hb]; exact ha2
    · obtain ⟨j, hj, e2⟩ := List.getElem_of_mem hb
      rw [List.getElem_drop] at e2
      rw [List.length_drop] at hj
      have := h2 (at' + j) (by omega) (by omega)
      rw [xat_eq (by omega), e2] at this
      have := cmpI_neg p b
      exact cmpI_tlt ha2 (by omega)
set_option maxHeartbeats 8000000 in
set_option maxRecDepth 100000 in
theorem l05Find_c (v vp : Value) (us : List Value) (A : List (List Int)) (p : List Int) (w : World) (hv : RII w v us A) (hp : RdI w vp p) (hN : A.length ≤ 1000000) :
    Calls Try.prog 64 #[v, vp] w (GivesF w A p) := by
  have hln := hv.len
  have hix := hv.ixe
  have hS0 := St.refl w
  have KC := fun W (h : St w.heap.size w W []) j (hj : j < A.length) => Lib.hid (sCompareLists_c (vat us j) vp (xat A j) p W ((h.oldII hv).row j hj) (h.oldI hp))
  go_enter Try.func64, Try.ntmps64
  go_wp2_with fail
  go_loopw [6, 7, 8, 9] (fun lo hi _ _ wr => ∃ (l h : Nat), lo = .int .i64 l ∧ hi = .int .i64 h ∧ l ≤ h ∧ h ≤ A.length ∧ Hid (StrA A → (∀ j, j < l → cmpI (xat A j) p < 0) ∧ ∀ j, h ≤ j → j < A.length → 0 < cmpI (xat A j) p) ∧ St w.heap.size w wr []) (fun lo hi _ _ _ => (intOf hi).toNat - (intOf lo).toNat)
  case atStart => exact ⟨0, A.length, rfl, rfl, by omega, by omega, fun _ => ⟨fun j hj => by omega, fun j h1 h2 => by omega⟩, hS0⟩
  case round =>
    clear hS0
    obtain ⟨l, h, rfl, rfl, hlh, hhA, hI, hS⟩ := hrel
    by_cases hlt : l < h
    · have hli : (l : Int) < (h : Int) := by omega
      obtain ⟨m, hm⟩ : ∃ m, (l + h) / 2 = m := ⟨_, rfl⟩
      have hm1 : l ≤ m := by omega
      have hm2 : m < h := by omega
      have hmA : m < A.length := by omega
      have q1 : ((l : Int) + (h : Int)).tdiv 2 = (m : Int) := by
        rw [show (l : Int) + (h : Int) = ((l + h : Nat) : Int) by omega, Int.tdiv_eq_ediv_of_nonneg (by omega), ← hm]; rfl
      have v1 : IntKind.i64.wrap ((l : Int) + (h : Int)) = (l : Int) + (h : Int) := IntWalk.i64_in _ (by omega)
      have v2 : IntKind.i64.wrap (m : Int) = (m : Int) := IntWalk.i64_in _ (by omega)
      have v3 : IntKind.i64.wrap ((m : Int) + 1) = (m : Int) + 1 := IntWalk.i64_in _ (by omega)
      have x1 := hix (m : Int) m rfl hmA
      have c1 := (hS.oldII hv).cell m hmA
      have K := KC _ hS m hmA
      have Hst := Lib.hid (fun (hA : StrA A) j (hj : j < m) => hA.at' hj hmA)
      have Hst2 := Lib.hid (fun (hA : StrA A) j (hj : m < j) (hj2 : j < A.length) => hA.at' hj hj2)
      have Hc := Lib.hid (cmpI_3 (xat A m) p)
      have Heq := Lib.hid (fun (h : cmpI (xat A m) p = 0) => cmpI_eq h)
      obtain ⟨c, hcc⟩ : ∃ c, cmpI (xat A m) p = c := ⟨_, rfl⟩
      rw [hcc] at K
      have Hcc := Lib.hid hcc
      clear hm hcc
      rcases (show c = -1 ∨ c = 0 ∨ c = 1 by have := Hc.out; rw [Hcc.out] at this; exact this) with rfl | rfl | rfl
      · go_wp2_with fail
        refine K.out.mono ?_
        rintro e w2 ⟨rfl, h2⟩
        have hS2 := hS.call0 h2
        go_wp2_with fail
        go_roundw
        case rel => exact ⟨m + 1, h, by go_num, rfl, by omega, hhA, fun hA => ⟨fun j hj => by
          rcases Nat.lt_or_ge j m with h1 | h1
          · exact cmpI_tlt (Hst.out hA j h1) (by rw [Hcc.out]; omega)
          · obtain rfl : j = m := by omega
            rw [Hcc.out]; omega, (hI.out hA).2⟩, hS2⟩
        case measure => simp [intOf]; omega
      · go_wp2_with fail
        refine K.out.mono ?_
        rintro e w2 ⟨rfl, h2⟩
        have hS2 := hS.call0 h2
        go_wp2_with fail
        go_ret2
        exact ⟨m, true, rfl, ⟨by omega, fun _ => ⟨hmA, Heq.out Hcc.out⟩, fun h => by cases h⟩, hS2⟩
      · go_wp2_with fail
        refine K.out.mono ?_
        rintro e w2 ⟨rfl, h2⟩
        have hS2 := hS.call0 h2
        go_wp2_with fail
        go_roundw
        case rel => exact ⟨l, m, rfl, rfl, by omega, by omega, fun hA => ⟨(hI.out hA).1, fun j h1 h2 => by
          rcases Nat.lt_or_ge m j with h3 | h3
          · have k1 := Hst2.out hA j h3 h2
            have k2 := cmpI_neg (xat A m) p
            have k3 := cmpI_neg (xat A j) p
            have := cmpI_tlt (a := p) (b := xat A m) (c := xat A j) (by rw [k2, Hcc.out]; omega) k1
            omega
          · obtain rfl : j = m := by omega
            rw [Hcc.out]; omega⟩, hS2⟩
        case measure => simp [intOf]; omega
    · obtain rfl : l = h := by omega
      go_wp2_with fail
      go_ret2
      exact ⟨l, false, rfl, ⟨hhA, fun h => by (first | cases h | contradiction), fun _ hA => hI.out hA⟩, hS⟩
/-- it hands over a header of its own -/
def MakesH (w : World) (us : List Value) (e : Ending) (w' : World) : Prop := ∃ v, e = .returned v ∧ St w.heap.size w w' [row 32 v us]
theorem RII.ones {w : World} {v : Value} {us : List Value} {A : List (List Int)} (h : RII w v us A) : ∀ u ∈ us, u.oneCell' = true := fun u hu => by
  obtain ⟨j, hj, rfl⟩ := List.getElem_of_mem hu
  rw [← vat_eq hj]
  exact (h.row j (by rw [← h.2.1]; exact hj)).sl.one
theorem ins_getD {α : Type} (d p : α) (l : List α) {m : Nat} (hm : m ≤ l.length) (j : Nat) : (l.take m ++ [p] ++ l.drop m).getD j d = if j < m then l.getD j d else if j = m then p else l.getD (j - 1) d := by
  have ll : (l.take m).length = m := by rw [List.length_take]; omega
  rw [List.getD_eq_getElem?_getD, List.append_assoc]
  by_cases h1 : j < m
  · rw [if_pos h1, List.getElem?_append_left (by omega), List.getElem?_take_of_lt h1, List.getD_eq_getElem?_getD]
  · rw [if_neg h1, List.getElem?_append_right (by omega), ll]
    by_cases h2 : j = m
    · rw [if_pos h2, h2, Nat.sub_self]; rfl
    · rw [if_neg h2]
      obtain ⟨e, rfl⟩ : ∃ e, j = m + (e + 1) := ⟨j - m - 1, by omega⟩
      rw [show m + (e + 1) - m = e + 1 by omega, List.singleton_append, List.getElem?_cons_succ, List.getElem?_drop, List.getD_eq_getElem?_getD]
      congr 2
theorem MakesH.rii {w w' : World} {v vp v' : Value} {us : List Value} {A : List (List Int)} {p : List Int} {m : Nat} (hv : RII w v us A) (hp : RdI w vp p) (hm : m ≤ A.length)
    (hS : St w.heap.size w w' [row 32 v' (us.take m ++ [vp] ++ us.drop m)]) : RII w' v' (us.take m ++ [vp] ++ us.drop m) (insA A m p) := by
  have hl := hv.2.1
  have hv' := hS.oldII hv
  have hp' := hS.oldI hp
  refine ⟨hS.rd 0 rfl, by rw [insA_len hm]; simp only [List.length_append, List.length_take, List.length_drop, List.length_singleton]; omega, fun j hj => ?_⟩
  rw [insA_len hm] at hj
  unfold insA vat xat
  rw [ins_getD _ _ _ (by omega), ins_getD _ _ _ hm]
  by_cases h1 : j < m
  · rw [if_pos h1, if_pos h1]; exact hv'.row j (by omega)
  · rw [if_neg h1, if_neg h1]
    by_cases h2 : j = m
    · rw [if_pos h2, if_pos h2]; exact hp'
    · rw [if_neg h2, if_neg h2]; exact hv'.row (j - 1) (by omega)
set_option maxHeartbeats 4000000 in
set_option maxRecDepth 100000 in
theorem l05Put_c (v vp : Value) (us : List Value) (A : List (List Int)) (p : List Int) (m : Nat) (w : World) (hv : RII w v us A) (hp : RdI w vp p) (hm : m ≤ A.length) (hN : A.length ≤ 1000000) :
    Calls Try.prog 65 #[v, .int .i64 m, vp] w (MakesH w (us.take m ++ [vp] ++ us.drop m)) := by
  have hl := hv.2.1
  obtain ⟨pa, pc, hpe⟩ := hp.sl.sh
  generalize (iv p).length = pl at hpe
  subst hpe
  have hone := Lib.hid hv.ones
  have hsl := rslII_hi hv.1 m (by omega)
  have hsl2 := rslII_lo2 hv.1 m (by omega)
  have hS1 : St w.heap.size w _ [row 32 (.slice (some ⟨w.heap.size, 0, none⟩) 0 0) []] := (St.refl w).new 32 #[] (by simp)
  have hr2 := rsl_Rd ((hS1.oldII hv).1) (lo := 0) (hi := m) (Nat.zero_le m) (by omega)
  have hR2 := Lib.hid hr2
  have R2 := Lib.hid (fun W L (h : St w.heap.size w W L) => rsl_Rd (h.oldII hv).1 (lo := m) (hi := us.length) (by omega) (Nat.le_refl _))
  have HL := Lib.hid (show ((us.take m).drop 0).length = m by rw [List.drop_zero, List.length_take]; omega)
  have HD := Lib.hid (show us.length ≤ 1000000 by omega)
  have HT := Lib.hid (show us.take us.length = us from List.take_length)
  obtain ⟨R, hR⟩ : ∃ R, R = us.take m ++ [Value.slice pa pl pc] ++ us.drop m := ⟨_, rfl⟩
  rw [← hR]
  have HR := Lib.hid hR
  clear hl hR hr2
  go_enter Try.func65, Try.ntmps65
  go_wp2_with (first
    | (at_builtin; refine appsII2 hS6 0 rfl _ _ (R2.out _ _ hS6) (fun u hu => hone.out u (List.mem_of_mem_take (List.mem_of_mem_drop hu))) (by have h1 := HL.out; have h2 := HD.out; simp only [List.length_append, List.length_singleton, List.nil_append] at *; rw [h1, List.length_drop, List.length_take]; omega) rfl _ _ rfl rfl rfl ?_; intro v7 w7 hS7)
    | (at_builtin; refine appII hS5 0 rfl (by have h1 := HL.out; have h2 := HD.out; simp only [List.nil_append]; rw [h1]; omega) rfl _ _ rfl rfl _ rfl (by first | rfl | simp [Act.eval, World.size_alloc]) ?_; intro v6 w6 hS6; simp only [List.set_cons_zero] at hS6)
    | (at_builtin; refine appsII2 hS1 0 rfl _ _ hR2.out (fun u hu => hone.out u (List.mem_of_mem_take (List.mem_of_mem_drop hu))) (by have h1 := HL.out; have h2 := HD.out; simp only [List.length_nil]; rw [h1]; omega) rfl _ _ rfl rfl rfl ?_; intro v5 w5 hS5; simp only [List.set_cons_zero] at hS5))
  simp only [List.set_cons_zero] at hS7
  rw [List.nil_append, List.drop_zero, HT.out, ← HR.out] at hS7
  go_ret
  exact ⟨v7, rfl, hS7⟩
end Go.Proofs.Ytdgmaodnkbgolaa
end

section
/- Plain: groups of permutations. -/
namespace Go.Proofs.Ytdgmaodnkbgolaa
set_option linter.unusedSimpArgs false
set_option linter.unusedVariables false
open Go

theorem cmp_iot {n : Nat} {p : List Int} (h : IsP p) (hl : p.length = n) : cmpL p (iot n) = p :=
  nth_ext (by rw [cmpL_len]) fun j hj => by
    rw [cmpL_len] at hj
    rw [nth_cmpL hj, nth_iot (by rw [← hl]; exact h.pf_lt hj), nth_pf h hj]
theorem iot_cmp {n : Nat} {p : List Int} (hl : p.length = n) : cmpL (iot n) p = p :=
  nth_ext (by rw [cmpL_len, iot_len, hl]) fun j hj => by
    rw [cmpL_len, iot_len] at hj
    rw [nth_cmpL (by rw [iot_len]; exact hj)]
    unfold pf
    rw [nth_iot hj, Int.toNat_natCast]
theorem inv_cmp {p : List Int} (h : IsP p) : cmpL (invL p) p = iot p.length :=
  nth_ext (by rw [cmpL_len, invL_len, iot_len]) fun y hy => by
    rw [cmpL_len, invL_len] at hy
    obtain ⟨j, hj, rfl⟩ := h.bij.onto hy
    rw [nth_cmpL (by rw [invL_len]; exact hy), nth_iot hy]
    have : pf (invL p) (pf p j) = j := by unfold pf; rw [show (nth p j).toNat = pf p j from rfl, nth_invL h hj]; omega
    rw [this, nth_pf h hj]
/-- permutations of n points -/
def Prm (n : Nat) (p : List Int) : Prop := IsP p ∧ p.length = n
theorem Prm.cmp {n : Nat} {p q : List Int} (h : Prm n p) (h2 : Prm n q) : Prm n (cmpL p q) := ⟨h.1.cmp h2.1 (by rw [h.2, h2.2]), by rw [cmpL_len, h.2]⟩
theorem Prm.one (n : Nat) : Prm n (iot n) := ⟨iot_isP n, iot_len n⟩
theorem Prm.assoc {n : Nat} {p q r : List Int} (h : Prm n p) (h2 : Prm n q) : cmpL (cmpL p q) r = cmpL p (cmpL q r) := cmpL_assoc h.1 (by rw [h.2, h2.2])
/-- what is composed with r on the right determines itself -/
theorem Prm.right {n : Nat} {p q r : List Int} (hp : Prm n p) (hq : Prm n q) (hr : Prm n r) (e : cmpL p r = cmpL q r) : p = q := by
  have : cmpL (cmpL p r) (invL r) = cmpL (cmpL q r) (invL r) := by rw [e]
  rwa [hp.assoc hr, hq.assoc hr, cmp_inv hr.1, hr.2, cmp_iot hp.1 hp.2, cmp_iot hq.1 hq.2] at this
theorem Prm.left {n : Nat} {p q r : List Int} (hp : Prm n p) (hq : Prm n q) (hr : Prm n r) (e : cmpL r p = cmpL r q) : p = q := by
  have hi : Prm n (invL r) := ⟨hr.1.inv, by rw [invL_len, hr.2]⟩
  have : cmpL (invL r) (cmpL r p) = cmpL (invL r) (cmpL r q) := by rw [e]
  rwa [← hi.assoc hr, ← hi.assoc hr, inv_cmp hr.1, hr.2, iot_cmp hp.2, iot_cmp hq.2] at this
/-! ### what permutations generate -/
def Gen (n : Nat) (S : List (List Int)) (p : List Int) : Prop := ∃ l : List (List Int), (∀ g ∈ l, g ∈ S) ∧ l.foldl cmpL (iot n) = p
section
variable {n : Nat} {S : List (List Int)}
theorem Gen.one : Gen n S (iot n) := ⟨[], (fun _ h => by cases h), rfl⟩
theorem Gen.mul {p g : List Int} (h : Gen n S p) (hg : g ∈ S) : Gen n S (cmpL p g) := by
  obtain ⟨l, hl, rfl⟩ := h
  refine ⟨l ++ [g], fun x hx => ?_, by rw [List.foldl_append]; rfl⟩
  rcases List.mem_append.1 hx with hx | hx
  · exact hl x hx
  · rw [List.mem_singleton.1 hx]; exact hg
/-- what holds of the identity and is kept by generators holds of all -/
theorem Gen.ind {C : List Int → Prop} (h1 : C (iot n)) (hm : ∀ p g, C p → g ∈ S → C (cmpL p g)) {p : List Int} (h : Gen n S p) : C p := by
  obtain ⟨l, hl, rfl⟩ := h
  have : ∀ (l : List (List Int)) (x : List Int), C x → (∀ g ∈ l, g ∈ S) → C (l.foldl cmpL x) := fun l => by
    induction l with
    | nil => intro x hx _; exact hx
    | cons g l ih => intro x hx hs; rw [List.foldl_cons]; exact ih _ (hm x g hx (hs g (by simp))) fun z hz => hs z (by simp [hz])
  exact this l _ h1 hl
theorem Gen.prm (hS : ∀ g ∈ S, Prm n g) {p : List Int} (h : Gen n S p) : Prm n p := h.ind (Prm.one n) fun _ _ hp hg => hp.cmp (hS _ hg)
theorem Gen.comp (hS : ∀ g ∈ S, Prm n g) {p q : List Int} (hp : Gen n S p) (hq : Gen n S q) : Gen n S (cmpL p q) := by
  have hpp := hp.prm hS
  have : Prm n q ∧ Gen n S (cmpL p q) := hq.ind (C := fun q => Prm n q ∧ Gen n S (cmpL p q)) ⟨Prm.one n, by rw [cmp_iot hpp.1 hpp.2]; exact hp⟩ fun q g ⟨h1, h2⟩ hg => by
    refine ⟨h1.cmp (hS g hg), ?_⟩
    rw [← hpp.assoc h1]
    exact h2.mul hg
  exact this.2
theorem Gen.of_mem (hS : ∀ g ∈ S, Prm n g) {g : List Int} (hg : g ∈ S) : Gen n S g := by
  have := (Gen.one (n := n) (S := S)).mul hg
  rwa [iot_cmp (hS g hg).2] at this
theorem Gen.mono {S' : List (List Int)} (hs : ∀ g ∈ S, g ∈ S') {p : List Int} (h : Gen n S p) : Gen n S' p := h.ind Gen.one fun _ _ hp hg => hp.mul (hs _ hg)
end
/-! ### ordered lists of permutations that are groups -/
structure Grp (n : Nat) (A : List (List Int)) : Prop where
  str : StrA A
  prm : ∀ p ∈ A, Prm n p
  one : iot n ∈ A
  mul : ∀ p q, p ∈ A → q ∈ A → cmpL p q ∈ A
theorem StrA.nodup {A : List (List Int)} (h : StrA A) : A.Nodup := by
  rw [List.nodup_iff_pairwise_ne]
  refine h.imp fun {a b} hlt e => ?_
  rw [e, cmpI_self] at hlt; omega
theorem StrA.ext {A B : List (List Int)} (hA : StrA A) (hB : StrA B) (h : ∀ p, p ∈ A ↔ p ∈ B) : A = B := by
  refine List.Perm.eq_of_pairwise (le := fun a b => cmpI a b < 0) (fun x y _ _ h1 h2 => ?_) hA hB ((List.perm_ext_iff_of_nodup hA.nodup hB.nodup).2 h)
  have := cmpI_neg x y; omega
/-- an injective map of a list into itself reaches all -/
theorem onto_of_inj {α : Type} [DecidableEq α] {A : List α} (hn : A.Nodup) {f : α → α} (hf : ∀ a ∈ A, f a ∈ A) (hi : ∀ a ∈ A, ∀ b ∈ A, f a = f b → a = b) {b : α} (hb : b ∈ A) : ∃ a ∈ A, f a = b := by
  by_cases h : b ∈ A.map f
  · obtain ⟨a, ha, e⟩ := List.mem_map.1 h; exact ⟨a, ha, e⟩
  · exfalso
    have hnm : (A.map f).Nodup := by
      rw [List.nodup_iff_pairwise_ne, List.pairwise_map]
      rw [List.nodup_iff_pairwise_ne] at hn
      refine (List.Pairwise.and_mem.1 hn).imp ?_
      rintro x y ⟨hx, hy, hne⟩ e
      exact hne (hi x hx y hy e)
    have h2 : (b :: A.map f).Nodup := List.nodup_cons.2 ⟨h, hnm⟩
    have h3 := h2.length_le_of_subset (l₂ := A) (by
      intro x hx
      rcases List.mem_cons.1 hx with rfl | hx
      · exact hb
      · obtain ⟨a, ha, rfl⟩ := List.mem_map.1 hx; exact hf a ha)
    rw [List.length_cons, List.length_map] at h3; omega
section
variable {n : Nat} {A : List (List Int)}
theorem Grp.inv (h : Grp n A) {p : List Int} (hp : p ∈ A) : invL p ∈ A := by
  obtain ⟨q, hq, e⟩ := onto_of_inj h.str.nodup (f := fun q => cmpL p q) (fun q hq => h.mul p q hp hq) (fun a ha b hb e => (h.prm a ha).left (h.prm b hb) (h.prm p hp) e) h.one
  have h1 := h.prm p hp
  have : q = invL p := by
    refine (h.prm q hq).left ⟨h1.1.inv, by rw [invL_len, h1.2]⟩ h1 ?_
    rw [e, cmp_inv h1.1, h1.2]
  rw [← this]; exact hq
theorem Grp.pos (h : Grp n A) : 0 < A.length := List.length_pos_of_mem h.one
theorem Grp.gen (h : Grp n A) {S : List (List Int)} (hS : ∀ g ∈ S, g ∈ A) {p : List Int} (hp : Gen n S p) : p ∈ A := hp.ind h.one fun _ _ h1 hg => h.mul _ _ h1 (hS _ hg)
/-- an ordered list of all that is generated -/
def ClO (n : Nat) (S R : List (List Int)) : Prop := StrA R ∧ ∀ p, p ∈ R ↔ Gen n S p
theorem ClO.grp {S R : List (List Int)} (h : ClO n S R) (hS : ∀ g ∈ S, Prm n g) : Grp n R where
  str := h.1
  prm p hp := ((h.2 p).1 hp).prm hS
  one := (h.2 _).2 Gen.one
  mul p q hp hq := (h.2 _).2 (((h.2 p).1 hp).comp hS ((h.2 q).1 hq))
theorem ClO.uniq {S R R' : List (List Int)} (h : ClO n S R) (h' : ClO n S R') : R = R' := h.1.ext h'.1 fun p => by rw [h.2, h'.2]
theorem ClO.le (h : Grp n A) {S R : List (List Int)} (hS : ∀ g ∈ S, g ∈ A) (hR : ClO n S R) : R.length ≤ A.length :=
  hR.1.nodup.length_le_of_subset fun p hp => h.gen hS ((hR.2 p).1 hp)
theorem ClO.all (h : Grp n A) {S R : List (List Int)} (hS : ∀ g ∈ S, g ∈ A) (hR : ClO n S R) (ha : ∀ p ∈ A, p ∈ R) : R = A :=
  hR.1.ext h.str fun p => ⟨fun hp => h.gen hS ((hR.2 p).1 hp), ha p⟩
/-- a further generator at least doubles -/
theorem ClO.double {S R R' : List (List Int)} {p : List Int} (hS : ∀ g ∈ S, Prm n g) (hp : Prm n p) (hR : ClO n S R) (hR' : ClO n (S ++ [p]) R') (hn : p ∉ R) : 2 * R.length ≤ R'.length := by
  have hG := hR.grp hS
  have hS' : ∀ g ∈ S ++ [p], Prm n g := fun g hg => by
    rcases List.mem_append.1 hg with hg | hg
    · exact hS g hg
    · rw [List.mem_singleton.1 hg]; exact hp
  have hG' := hR'.grp hS'
  have hpR : p ∈ R' := (hR'.2 p).2 (Gen.of_mem hS' (by simp))
  have hsub : ∀ r ∈ R, r ∈ R' := fun r hr => (hR'.2 r).2 (((hR.2 r).1 hr).mono fun g hg => by simp [hg])
  have hnd : (R ++ R.map fun r => cmpL r p).Nodup := by
    rw [List.nodup_append]
    refine ⟨hG.str.nodup, ?_, ?_⟩
    · rw [List.nodup_iff_pairwise_ne, List.pairwise_map]
      have h1 := hG.str.nodup
      rw [List.nodup_iff_pairwise_ne] at h1
      refine (List.Pairwise.and_mem.1 h1).imp ?_
      rintro x y ⟨hx, hy, hne⟩ e
      exact hne ((hG.prm x hx).right (hG.prm y hy) hp e)
    · intro x hx y hy e
      obtain ⟨r, hr, rfl⟩ := List.mem_map.1 hy
      apply hn
      have hrp := hG.prm r hr
      have hi := hG.inv hr
      have : p = cmpL (invL r) x := by
        rw [e, ← (hG.prm _ hi).assoc hrp, inv_cmp hrp.1, hrp.2, iot_cmp hp.2]
      rw [this]; exact hG.mul _ _ hi hx
  have := hnd.length_le_of_subset (l₂ := R') (by
    intro x hx
    rcases List.mem_append.1 hx with hx | hx
    · exact hsub x hx
    · obtain ⟨r, hr, rfl⟩ := List.mem_map.1 hx
      exact hG'.mul _ _ (hsub r hr) hpR)
  rw [List.length_append, List.length_map] at this; omega
/-- a list within the elements that is closed -/
theorem Grp.sub (h : Grp n A) {f : List Int → Bool} (h1 : f (iot n) = true) (hm : ∀ p q, p ∈ A → q ∈ A → f p = true → f q = true → f (cmpL p q) = true) : Grp n (A.filter f) where
  str := h.str.sublist List.filter_sublist
  prm p hp := h.prm p (List.mem_filter.1 hp).1
  one := List.mem_filter.2 ⟨h.one, h1⟩
  mul p q hp hq := by
    rw [List.mem_filter] at *
    exact ⟨h.mul p q hp.1 hq.1, hm p q hp.1 hq.1 hp.2 hq.2⟩
/-! ### counting by fibres -/
theorem fibre_w {α β : Type} [DecidableEq β] {w : α → Nat} {f : α → β} {c : Nat} : ∀ (M : List β) (L : List α), M.Nodup → (∀ x ∈ L, f x ∈ M) → (∀ m ∈ M, ((L.filter fun x => decide (f x = m)).map w).sum = c) → (L.map w).sum = M.length * c
  | [], L, _, h, _ => by
    cases L with
    | nil => simp
    | cons x L => exact absurd (h x (by simp)) (by simp)
  | m :: M, L, hn, h, hc => by
    obtain ⟨hm, hn'⟩ := List.nodup_cons.1 hn
    have hsplit : ∀ L : List α, (L.map w).sum = ((L.filter fun x => decide (f x = m)).map w).sum + ((L.filter fun x => decide (f x ≠ m)).map w).sum := fun L => by
      induction L with
      | nil => rfl
      | cons x L ih =>
        by_cases e : f x = m
        · rw [List.filter_cons_of_pos (by simpa using e), List.filter_cons_of_neg (by simpa using e), List.map_cons, List.map_cons, List.sum_cons, List.sum_cons, ih]; omega
        · rw [List.filter_cons_of_neg (by simpa using e), List.filter_cons_of_pos (by simpa using e), List.map_cons, List.map_cons, List.sum_cons, List.sum_cons, ih]; omega
    have ih := fibre_w (w := w) (f := f) (c := c) M (L.filter fun x => decide (f x ≠ m)) hn' (fun x hx => by
      rw [List.mem_filter] at hx
      rcases List.mem_cons.1 (h x hx.1) with e | e
      · exact absurd e (by simpa using hx.2)
      · exact e) (fun m' hm' => by
      rw [List.filter_filter]
      rw [← hc m' (by simp [hm'])]
      congr 2
      apply List.filter_congr
      intro x _
      by_cases e : f x = m'
      · have : m' ≠ m := fun q => hm (q ▸ hm')
        simp [e, this]
      · simp [e])
    rw [hsplit L, hc m (by simp), ih, List.length_cons, Nat.succ_mul]; omega
theorem fibre_c {α β : Type} [DecidableEq β] {f : α → β} {c : Nat} (M : List β) (L : List α) (hn : M.Nodup) (h : ∀ x ∈ L, f x ∈ M) (hc : ∀ m ∈ M, (L.filter fun x => decide (f x = m)).length = c) : L.length = M.length * c := by
  have := fibre_w (w := fun _ : α => 1) (f := f) (c := c) M L hn h (fun m hm => by
    rw [← hc m hm]
    generalize L.filter (fun x => decide (f x = m)) = K
    induction K with
    | nil => rfl
    | cons x K ih => rw [List.map_cons, List.sum_cons, ih, List.length_cons]; omega)
  rw [← this]
  clear hc this h
  induction L with
  | nil => rfl
  | cons x K ih => rw [List.map_cons, List.sum_cons, ← ih, List.length_cons]; omega
end
end Go.Proofs.Ytdgmaodnkbgolaa
end

section
/- A map from texts to truth values beside rows of memory that a call owns. -/
namespace Go.Proofs.Ytdgmaodnkbgolaa
set_option linter.unusedSimpArgs false
set_option linter.unusedVariables false
open Go.RowKit Go.Maps

theorem ownsMap_block {P : Program} {k : TypeId} {R : Value → Option (DataW Unit × List MemPlace)} {w w' : World} {b n : Nat} {D : DataW Unit} (h : w.ownsMap P k R b n D) (hb : w'.heap[b]? = w.heap[b]?) : w'.ownsMap P k R b n D := by
  obtain ⟨es, clock, h1, r⟩ := h
  exact ⟨es, clock, by rw [hb]; exact h1, r⟩
/-- behind a change of block b, below the bound: the same rows, over another beginning -/
theorem St.turn {B : Nat} {w0 w w5 : World} {L : List Ent} {b : Nat} (h : St B w0 w L) (hb : b < B) (hB : B ≤ w0.heap.size) (hg : w.grownBy w5 (some b)) :
    ∃ w0' : World, w0'.heap.size = w0.heap.size ∧ w0.grownBy w0' (some b) ∧ w0'.heap[b]? = w5.heap[b]? ∧ St B w0' w5 L := by
  have hs5 : w0.heap.size ≤ w5.heap.size := Nat.le_trans h.below.size hg.size
  obtain ⟨o, ho⟩ : ∃ o, w5.heap[b]? = some o := ⟨w5.heap[b]'(by omega), Array.getElem?_eq_getElem (by omega)⟩
  have hbk : ∀ k, k ≠ b → (w0.heap.setIfInBounds b o)[k]? = w0.heap[k]? := fun k hk => by
    rw [Array.getElem?_setIfInBounds]; rw [if_neg (fun e => hk e.symm)]
  have hbb : (w0.heap.setIfInBounds b o)[b]? = some o := by
    rw [Array.getElem?_setIfInBounds, if_pos rfl, if_pos (by omega)]
  refine ⟨{ w0 with heap := w0.heap.setIfInBounds b o }, by simp, ⟨rfl, rfl, rfl, by simp, fun k _ hk => hbk k (fun e => hk (by rw [e]))⟩, by rw [ho]; exact hbb, ?_⟩
  refine ⟨⟨by rw [hg.os]; exact h.below.os, by rw [hg.tape]; exact h.below.tape, by rw [hg.output]; exact h.below.output, by simpa using hs5, fun k hk => ?_⟩, Nat.le_trans h.base hg.size, ?_, h.apart⟩
  · show w5.heap[k]? = (w0.heap.setIfInBounds b o)[k]?
    by_cases e : k = b
    · subst e; rw [ho, hbb]
    · rw [hbk k e, hg.block k (by have := h.base; omega) (by simp; exact fun q => e (by rw [q]))]
      exact h.below.block k hk
  · intro x hx
    refine (h.ok x hx).of_block fun k hk => ?_
    have hlt := (h.ok x hx).lt hk
    exact hg.block k hlt.2 (by simp; omega)
section
variable {P : Program} {ops : Array Oper} {rest : List Oper} {o : Oper} {a : Act} {Q : Exit → Act → World → Prop}
/-- an entry of a map's literal -/
theorem wpList_insert_own (w : World) (hg : o.guard = none) (m x v : Operand) (t : TypeId) (hop : o.op = Op.insert t m x v)
    (k e : TypeId) (K : Keyed P k) (ht : P.underlying t = some (.map k e)) (R : Value → Option (DataW Unit × List MemPlace)) (b n : Nat) (D : DataW Unit)
    (hm : a.eval m = .map (some b)) (hown : w.ownsMap P k R b n D) (hn : n < maxLen) (key val : Value) (kl : Lit) (hx : a.eval x = key) (hv : a.eval v = val) (hkey : Go.keyOf P k key = some kl)
    (d : DataW Unit) (ps : List MemPlace) (hval : R val = some (d, ps))
    (hK : ∀ w', w'.ownsMap P k R b (n + 1) (D.put kl d) → w.grownBy w' (some b) → wpList P ops Q rest (a.put o.dst undef) w') :
    wpList P ops Q (o :: rest) a w := by
  refine wpList_plain hg fun K' hK' => ?_
  obtain ⟨w', hrun, r1, r2⟩ := hown.update K ht hn hkey hval
  unfold Oper.wp
  simp [execOp, hop, hm, hx, hv, hrun, Result.andThen]
  exact hK' _ _ (hK w' r1 r2)
theorem plainElem_bool_inv {e : TypeId} (he : P.underlying e = some .bool) {v : Value} {z : DataW Unit × List MemPlace} (h : plainElem (H := Unit) P e v = some z) : ∃ c, v = .bool c ∧ z = (.lit (.bool c), []) := by
  unfold plainElem at h
  rw [he] at h
  cases v <;> simp at h
  rename_i c
  exact ⟨c, rfl, h.symm⟩
/-- 'm[k]' at truth values -/
theorem wpList_lookup_own_bool (w : World) (hg : o.guard = none) (m x : Operand) (t : TypeId) (hop : o.op = Op.lookup t m x false)
    (k e : TypeId) (K : Keyed P k) (ht : P.underlying t = some (.map k e)) (he : P.underlying e = some .bool) (hz : (zeroValue e).run P w = .ok (.bool false) w) (b n : Nat) (D : DataW Unit)
    (hm : a.eval m = .map (some b)) (hown : w.ownsMap P k (plainElem (H := Unit) P e) b n D) (key : Value) (kl : Lit) (hx : a.eval x = key) (hkey : Go.keyOf P k key = some kl)
    (c : Bool) (hc : D.atKey kl (.lit (.bool false)) = .lit (.bool c)) (hK : wpList P ops Q rest (a.put o.dst (.bool c)) w) :
    wpList P ops Q (o :: rest) a w := by
  refine wpList_plain hg fun K' hK' => ?_
  obtain ⟨v, ps, hrun, hv⟩ := hown.lookup K ht hz (plainElem_bool he false) hkey
  obtain ⟨c', rfl, hc'⟩ := plainElem_bool_inv he hv
  simp only [Prod.mk.injEq] at hc'
  have : c' = c := by
    have h1 := hc'.1
    rw [hc] at h1
    simpa using h1.symm
  subst this
  unfold Oper.wp
  simp [execOp, hop, hm, hx, hrun, Result.andThen]
  exact hK' _ _ hK
end
/-- a set of texts, as a map to true -/
def setT (ks : List Lit) : DataW Unit := setOf (.lit (.bool true)) ks
theorem atT_fold (k : Lit) (u z : DataW Unit) (hk : WideAt.IsKeyLit k) : ∀ (ks : List Lit) (m : DataW Unit), IsMap m → (k ∈ ks → (ks.foldl (fun m x => m.put x u) m).atKey k z = u) ∧ (k ∉ ks → (ks.foldl (fun m x => m.put x u) m).atKey k z = m.atKey k z)
  | [], m, _ => ⟨fun h => by simp at h, fun _ => rfl⟩
  | x :: ks, m, hm => by
    obtain ⟨h1, h2⟩ := atT_fold k u z hk ks (m.put x u) (hm.put x u)
    rw [List.foldl_cons]
    refine ⟨fun h => ?_, fun h => ?_⟩
    · by_cases hks : k ∈ ks
      · exact h1 hks
      · have e : k = x := by
          rcases List.mem_cons.1 h with h | h
          · exact h
          · exact absurd h hks
        subst e
        rw [h2 hks]; exact atKey_put_same hm hk u z
    · rw [List.mem_cons, not_or] at h
      rw [h2 h.2]; exact atKey_put_other h.1 u z
theorem setT_yes {ks : List Lit} {k : Lit} (hk : WideAt.IsKeyLit k) (h : k ∈ ks) : (setT ks).atKey k (.lit (.bool false)) = .lit (.bool true) := (atT_fold k _ _ hk ks _ isMap_empty).1 h
theorem setT_no {ks : List Lit} {k : Lit} (hk : WideAt.IsKeyLit k) (h : k ∉ ks) : (setT ks).atKey k (.lit (.bool false)) = .lit (.bool false) := (atT_fold k _ _ hk ks _ isMap_empty).2 h
theorem setT_snoc (ks : List Lit) (k : Lit) : setT (ks ++ [k]) = (setT ks).put k (.lit (.bool true)) := setOf_snoc _ _ _
end Go.Proofs.Ytdgmaodnkbgolaa
end
