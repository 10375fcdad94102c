/- The texts of this claim, run 7: DsD PPut Put Ds4 Ds5 DsE Pm3 DsG Ds9 DsA PDg PDi. -/
import Derived.Test.YtegmjlblehjccaaGreatK1
import Derived.Test.YtegmjlblehjccaaGreatK2
import Derived.Test.YtegmjlblehjccaaGreatK4
import Derived.Test.YtegmjlblehjccaaGreatK5
import Derived.Test.YtegmjlblehjccaaGreatK6
import Derived.Deep.RegionHeld3
import Derived.Deep.DrawnRows
section
/- Walks: the reference's sorting of blocks. -/
namespace Go.Proofs.YtegmjlblehjccaaGreat
set_option linter.unusedSimpArgs false
set_option linter.unusedVariables false
open Go.RowKit
attribute [local go_sem ↓] Go.wp_at_zero Go.wp_at_succ

section
variable {a : Act} {w : World} {Q : Exit → Act → World → Prop} {ops : Array Oper} {rest : List Oper} {o : Oper} {B : Nat} {w0 : World} {L : List Ent}
/-- append of the slices of a slice to an owned row of slices -/
theorem appsII2 (hS : St B w0 w L) (i : Nat) {v : Value} {us : List Value} (hi : L[i]? = some (row 30 v us)) (vx : Value) (ws : List Value) (hr : Rd w vx ws) (h1 : ∀ u ∈ ws, u.oneCell' = true) (hN : us.length + ws.length ≤ 4294967296) (hg : o.guard = none) (s x : Operand)
    (hop : o.op = .call { callee := .builtin .append, args := #[s, x], argTypes := #[24, 24] }) (hs : a.eval s = v) (hx : a.eval x = vx)
    (hK : ∀ v' w', St B w0 w' (L.set i (row 30 v' (us ++ ws))) → wpList Tryz.prog ops Q rest (a.put o.dst v') w') :
    wpList Tryz.prog ops Q (o :: rest) a w :=
  wpList_st_apps hg s x 24 hop 30 (.slice none 0 0) 24 Tryz.und_iss Tryz.info_is rfl hS i hi hs vx hx ws hr h1 (by omega) hN hK
end
theorem rslII_lo2 {w : World} {v : Value} {us : List Value} (h : Rd w v us) (lo : Nat) (h2 : lo ≤ us.length) (W : World) :
    (Instr.slice 24 v (some (.int .i64 (lo : Int))) none none).run Tryz.prog W = .ok (rsl v lo us.length) W := by
  obtain ⟨⟨a, cap, rfl, hc1, hc2, ha⟩, hcell⟩ := h
  rw [run_slice_l W 24 a _ cap und_elem_iis .i64 lo (by omega) (by omega), run_size_elemII]
  rfl
theorem ins_srt {A S : List (List Int)} {k m : Nat} (hk : k < A.length) (hm : m ≤ S.length) (hS : S = srtL (A.take k) ∧ (∀ j, j < m → leL (xat S j) (xat A k) = true)) (h2 : ∀ j, m ≤ j → j < S.length → leL (xat A k) (xat S j) = true) :
    S.take m ++ [xat A k] ++ S.drop m = srtL (A.take (k + 1)) := by
  obtain ⟨hS, h1⟩ := hS
  refine srtL_eq ?_ ?_
  · have p1 : (S.take m ++ [xat A k] ++ S.drop m).Perm (xat A k :: S) := by
      have : (S.take m ++ [xat A k] ++ S.drop m).Perm (xat A k :: (S.take m ++ S.drop m)) := by
        rw [List.append_assoc]; exact List.perm_middle
      rwa [List.take_append_drop] at this
    refine p1.trans ?_
    rw [take_xat hk, hS]
    exact ((srtL_perm _).cons _).trans (List.perm_append_comm (l₁ := [xat A k]))
  · have hpw : S.Pairwise fun a b => leL a b = true := by rw [hS]; exact srtL_pw _
    have hcut : (S.take m ++ S.drop m).Pairwise fun a b => leL a b = true := by rw [List.take_append_drop]; exact hpw
    obtain ⟨c1, c2, c3⟩ := List.pairwise_append.1 hcut
    have m1 : ∀ x ∈ S.take m, leL x (xat A k) = true := fun x hx => by
      obtain ⟨j, hj, rfl⟩ := List.getElem_of_mem hx
      have hjm : j < m := by simp at hj; omega
      rw [List.getElem_take, ← xat_eq]; exact h1 j hjm
    have m2 : ∀ x ∈ S.drop m, leL (xat A k) x = true := fun x hx => by
      obtain ⟨j, hj, rfl⟩ := List.getElem_of_mem hx
      have hjm : m + j < S.length := by simp at hj; omega
      rw [List.getElem_drop, ← xat_eq hjm]; exact h2 (m + j) (by omega) hjm
    rw [List.append_assoc]
    refine List.pairwise_append.2 ⟨c1, List.pairwise_cons.2 ⟨m2, c2⟩, fun x hx y hy => ?_⟩
    rcases List.mem_append.1 hy with hy | hy
    · obtain rfl := List.mem_singleton.1 hy; exact m1 x hx
    · exact c3 x hx y hy
theorem rows_ins {us : List Value} {S : List (List Int)} (hl : us.length = S.length) {m : Nat} (hm : m ≤ S.length) (u : Value) (b : List Int) :
    (rowsI us S ++ [row 2 u (iv b)]).Perm (rowsI (us.take m ++ [u] ++ us.drop m) (S.take m ++ [b] ++ S.drop m)) := by
  have e1 : rowsI us S = rowsI (us.take m) (S.take m) ++ rowsI (us.drop m) (S.drop m) := by
    unfold rowsI
    rw [← List.zipWith_append (by simp [hl]), List.take_append_drop, List.take_append_drop]
  have e2 : rowsI (us.take m ++ [u] ++ us.drop m) (S.take m ++ [b] ++ S.drop m) = rowsI (us.take m) (S.take m) ++ [row 2 u (iv b)] ++ rowsI (us.drop m) (S.drop m) := by
    unfold rowsI
    rw [List.zipWith_append (by simp [hl]), List.zipWith_append (by simp [hl])]; rfl
  rw [e1, e2, List.append_assoc, List.append_assoc]
  exact (List.perm_append_comm).append_left _
set_option maxHeartbeats 8000000 in
set_option maxRecDepth 100000 in
theorem l10Sort_c (v : Value) (us : List Value) (A : List (List Int)) (w : World) (hv : RII w v us A) (hN : A.length ≤ 1000) (hNr : ∀ xs ∈ A, xs.length ≤ 1048576) :
    Calls Tryz.prog 140 #[v] w (MakesII w (srtL A)) := by
  have hln := hv.len
  have hixe := hv.ixe
  have hNr := Lib.hid hNr
  have hS1 := St.emp0II (w := w)
  go_enter Tryz.func140, Tryz.ntmps140
  go_wp2_with fail
  go_loopw [3, 4, 5, 6] (fun o i _ _ wr => ∃ (k : Nat) (uo : List Value), k ≤ A.length ∧ i = .int .i64 k ∧ Hid (uo.length = (srtL (A.take k)).length) ∧ St w.heap.size w wr (own2 o uo (srtL (A.take k)))) (fun _ i _ _ _ => A.length - (intOf i).toNat)
  case atStart => exact ⟨0, [], by omega, rfl, rfl, hS1⟩
  case round =>
    clear hS1
    obtain ⟨k, uo, hk, rfl, hlo, hS⟩ := hrel
    have hlS : (srtL (A.take k)).length = k := by rw [srtL_len, List.length_take]; omega
    by_cases hlt : k < A.length
    · have hA0 := Lib.hid (show srtL (A.take k) = srtL (A.take k) from rfl)
      have HS0 : ∃ S, S = srtL (A.take k) := ⟨_, rfl⟩
      obtain ⟨S, hSe⟩ := HS0
      rw [← hSe] at hS hlo hlS
      have Hpw := Lib.hid (show S.Pairwise fun a b => leL a b = true by rw [hSe]; exact srtL_pw _)
      have HSe := Lib.hid hSe
      clear hSe hA0
      have hR0 := rii2 (L2 := []) (by rw [List.append_nil]; exact hS) hlo.out
      have hxo := hR0.ixe
      have hlno := hR0.len
      have xk := hixe (k : Int) k rfl hlt
      clear hR0
      go_wp2_with fail
      go_loopw [5] (fun q wr => ∃ m : Nat, m ≤ S.length ∧ q = .int .i64 m ∧ Hid (∀ j, m ≤ j → j < S.length → leL (xat A k) (xat S j) = true) ∧ St w.heap.size w wr (own2 u3 uo S)) (fun q _ => (intOf q).toNat)
      case atStart => exact ⟨S.length, by omega, by rw [hlS], fun j h1 h2 => by omega, hS⟩
      case round =>
        clear hS
        obtain ⟨m, hm, rfl, hI, hS⟩ := hrel
        by_cases hm0 : 0 < m
        · obtain ⟨p, hp⟩ : ∃ p, p + 1 = m := ⟨m - 1, by omega⟩
          have hpl : p < S.length := by omega
          have Rp := Lib.hid fun s : SS w.heap.size w (own2 u3 uo S) => (rii2 (L2 := []) (by rw [List.append_nil]; exact s.st) hlo.out).row p hpl
          have Rk := Lib.hid fun s : SS w.heap.size w (own2 u3 uo S) => (s.st.oldII hv).row k hlt
          have qp := fun s : SS w.heap.size w (own2 u3 uo S) => (rii2 (L2 := []) (by rw [List.append_nil]; exact s.st) hlo.out).cell p hpl
          have qk := fun s : SS w.heap.size w (own2 u3 uo S) => (s.st.oldII hv).cell k hlt
          have xp := hxo ((m : Int) - 1) p (by omega) hpl
          have hw : IntKind.i64.wrap ((m : Int) - 1) = (m : Int) - 1 := IntWalk.i64_in _ (by omega)
          have Hp := Lib.hid hp
          clear hp
          cases hc : leL (xat S p) (xat A k)
          · have hgt : 0 < cmpI (xat S p) (xat A k) := by have := of_decide_eq_false hc; omega
            have Hle := Lib.hid (show leL (xat A k) (xat S p) = true from by
              have := cmpI_neg (xat S p) (xat A k)
              exact decide_eq_true (by omega))
            clear hc
            go_wp2_with fail
            have hne : Nonempty (SS _ _ _) := ⟨⟨_, hS⟩⟩
            refine wp_region_st (by kernel_rfl) (by kernel_rfl) hS ?_
            repeat (go_big_quiet_step ((go_at_call 165; exact st_quiet (sCompareLists_c _ _ _ _ _ (Rp.out _) (Rk.out _)))))
            refine wpQuiet_nil ?_
            rintro _ ⟨s2, rfl⟩
            have hS2 := s2.st
            generalize s2.w = w2 at hS2 ⊢
            go_wp2_with fail
            go_roundw
            case rel => exact ⟨p, by omega, by rw [← Hp.out]; go_num, fun j h1 h2 => by
              by_cases e : j = p
              · rw [e]; exact Hle.out
              · exact hI.out j (by have := Hp.out; omega) h2, hS2⟩
            case measure => have := Hp.out; simp [intOf]; omega
          · have hgt : ¬ 0 < cmpI (xat S p) (xat A k) := by have := of_decide_eq_true hc; omega
            have hA1 : S = srtL (A.take k) ∧ (∀ j, j < m → leL (xat S j) (xat A k) = true) := ⟨HSe.out, fun j hj => by
              by_cases e : j = p
              · rw [e]; exact hc
              · have h3 := List.pairwise_iff_getElem.1 Hpw.out j p (by omega) hpl (by have := Hp.out; omega)
                rw [← xat_eq, ← xat_eq] at h3
                exact leL_trans _ _ _ h3 hc⟩
            have HA1 := Lib.hid hA1
            clear hA1 hc
            go_wp2_with fail
            have hne : Nonempty (SS _ _ _) := ⟨⟨_, hS⟩⟩
            refine wp_region_st (by kernel_rfl) (by kernel_rfl) hS ?_
            repeat (go_big_quiet_step ((go_at_call 165; exact st_quiet (sCompareLists_c _ _ _ _ _ (Rp.out _) (Rk.out _)))))
            refine wpQuiet_nil ?_
            rintro _ ⟨s2, rfl⟩
            have hS2 := s2.st
            generalize s2.w = w2 at hS2 ⊢
            clear hS qp qk Rp Rk
            have hone := Lib.hid (fun u (hu : u ∈ uo) => (show u.oneCell' = true by
              obtain ⟨j, hj, rfl⟩ := List.getElem_of_mem hu
              rw [← vat_eq hj]
              exact ((rii2 (L2 := []) (by rw [List.append_nil]; exact hS2) hlo.out).row j (by rw [← hlo.out]; exact hj)).sl.one))
            have hrd := hS2.rd 0 (e := 30) (v := u3) (us := uo) rfl
            have hsl := rslII_hi hrd m (by rw [hlo.out]; omega)
            have hsl2 := rslII_lo2 hrd m (by rw [hlo.out]; omega)
            rw [hlo.out] at hsl2
            have hrk := Lib.hid ((hS2.oldII hv).row k hlt)
            have hk1 := (hS2.oldII hv).cell k hlt
            have hS3 := (hS2.new 30 #[] (by simp)).perm List.perm_append_comm
            simp only [List.cons_append, List.nil_append] at hS3
            have Hrd := Lib.hid (hS3.rd 1 (e := 30) (v := u3) (us := uo) rfl)
            clear hrd
            go_wp2_with (at_builtin; refine appsII2 hS3 0 rfl _ _ (rsl_Rd Hrd.out (Nat.zero_le m) (by rw [hlo.out]; omega)) (fun u hu => hone.out u (List.mem_of_mem_take (List.mem_of_mem_drop hu))) (by simp [hlo.out]; omega) rfl _ _ rfl rfl rfl ?_; intro v4 w4 hS4; have hk4 := (hS4.oldII hv).cell k hlt)
            have hrk4 := (hS4.oldII hv).row k hlt
            refine (l00Own_c _ _ _ hrk4 (hNr.out _ (xat_mem hlt))).mono ?_
            rintro e w5 ⟨u5, rfl, h5⟩
            obtain ⟨ua, uc, hle⟩ := (h5.rdI 0 rfl).sl.sh
            rw [iv_len] at hle
            subst hle
            have hS5 := hS4.call h5
            simp only [List.set_cons_zero, List.cons_append, List.nil_append, List.drop_zero] at hS5
            have hl5 := Lib.hid (show (uo.take m).length = m by rw [List.length_take, hlo.out]; omega)
            clear hS3 hS4 h5 hrk4 hk4
            have hN5 : (uo.take m).length < 4294967296 := (by rw [hl5.out]; omega)
            have hN5 := Lib.hid hN5
            go_wp2_with (first | (at_builtin; refine appsII2 hS6 0 rfl _ _ hrd6.out hone6.out hN6.out rfl _ _ rfl rfl rfl ?_; intro v7 w7 hS7) | (at_builtin; refine appII hS5 0 rfl hN5.out rfl _ _ rfl rfl _ rfl rfl ?_; intro v6 w6 hS6; simp only [List.set_cons_zero] at hS6; have hrd6 := Lib.hid (rsl_Rd (hS6.rd 1 (e := 30) (v := u3) (us := uo) rfl) (lo := m) (hi := k) (by omega) (by rw [hlo.out]; omega)); have hone6 := Lib.hid (fun u (hu : u ∈ (uo.take k).drop m) => hone.out u (List.mem_of_mem_take (List.mem_of_mem_drop hu))); have hN6 := Lib.hid (show (uo.take m ++ [Value.slice ua (xat A k).length uc]).length + ((uo.take k).drop m).length ≤ 4294967296 by simp only [List.length_append, List.length_drop, List.length_take, List.length_singleton, hlo.out]; omega)))
            simp only [List.set_cons_zero] at hS7
            go_roundw
            case rel =>
              refine ⟨k + 1, uo.take m ++ [.slice ua (xat A k).length uc] ++ uo.drop m, by omega, by go_num, by rw [Hid, srtL_len, List.length_take]; simp [hlo.out]; omega, ?_⟩
              have he := ins_srt hlt hm HA1.out hI.out
              rw [← he]
              rw [show (uo.take k).drop m = uo.drop m by rw [← hlS, ← hlo.out, List.take_length]] at hS7
              have hp := hS7.sub (L' := row 30 v7 (uo.take m ++ [.slice ua (xat A k).length uc] ++ uo.drop m) :: (rowsI uo S ++ [row 2 (.slice ua (xat A k).length uc) (iv (xat A k))])) ((List.sublist_cons_self _ _).cons_cons _)
              refine hp.perm ?_
              unfold own2
              refine List.Perm.cons _ ?_
              exact rows_ins hlo.out hm _ _
            case measure => simp [intOf]; omega
        · have HA1 := Lib.hid (show S = srtL (A.take k) ∧ (∀ j, j < m → leL (xat S j) (xat A k) = true) from ⟨HSe.out, fun j hj => by omega⟩)
          go_wp2_with fail
          have hne : Nonempty (SS _ _ _) := ⟨⟨_, hS⟩⟩
          refine wp_region_st (by kernel_rfl) (by kernel_rfl) hS ?_
          repeat (go_big_quiet_step (fail))
          refine wpQuiet_nil ?_
          rintro _ ⟨s2, rfl⟩
          have hS2 := s2.st
          generalize s2.w = w2 at hS2 ⊢
          clear hS
          have hone := Lib.hid (fun u (hu : u ∈ uo) => (show u.oneCell' = true by
            obtain ⟨j, hj, rfl⟩ := List.getElem_of_mem hu
            rw [← vat_eq hj]
            exact ((rii2 (L2 := []) (by rw [List.append_nil]; exact hS2) hlo.out).row j (by rw [← hlo.out]; exact hj)).sl.one))
          have hrd := hS2.rd 0 (e := 30) (v := u3) (us := uo) rfl
          have hsl := rslII_hi hrd m (by rw [hlo.out]; omega)
          have hsl2 := rslII_lo2 hrd m (by rw [hlo.out]; omega)
          rw [hlo.out] at hsl2
          have hrk := Lib.hid ((hS2.oldII hv).row k hlt)
          have hk1 := (hS2.oldII hv).cell k hlt
          have hS3 := (hS2.new 30 #[] (by simp)).perm List.perm_append_comm
          simp only [List.cons_append, List.nil_append] at hS3
          have Hrd := Lib.hid (hS3.rd 1 (e := 30) (v := u3) (us := uo) rfl)
          clear hrd
          go_wp2_with (at_builtin; refine appsII2 hS3 0 rfl _ _ (rsl_Rd Hrd.out (Nat.zero_le m) (by rw [hlo.out]; omega)) (fun u hu => hone.out u (List.mem_of_mem_take (List.mem_of_mem_drop hu))) (by simp [hlo.out]; omega) rfl _ _ rfl rfl rfl ?_; intro v4 w4 hS4; have hk4 := (hS4.oldII hv).cell k hlt)
          have hrk4 := (hS4.oldII hv).row k hlt
          refine (l00Own_c _ _ _ hrk4 (hNr.out _ (xat_mem hlt))).mono ?_
          rintro e w5 ⟨u5, rfl, h5⟩
          obtain ⟨ua, uc, hle⟩ := (h5.rdI 0 rfl).sl.sh
          rw [iv_len] at hle
          subst hle
          have hS5 := hS4.call h5
          simp only [List.set_cons_zero, List.cons_append, List.nil_append, List.drop_zero] at hS5
          have hl5 := Lib.hid (show (uo.take m).length = m by rw [List.length_take, hlo.out]; omega)
          clear hS3 hS4 h5 hrk4 hk4
          have hN5 : (uo.take m).length < 4294967296 := (by rw [hl5.out]; omega)
          have hN5 := Lib.hid hN5
          go_wp2_with (first | (at_builtin; refine appsII2 hS6 0 rfl _ _ hrd6.out hone6.out hN6.out rfl _ _ rfl rfl rfl ?_; intro v7 w7 hS7) | (at_builtin; refine appII hS5 0 rfl hN5.out rfl _ _ rfl rfl _ rfl rfl ?_; intro v6 w6 hS6; simp only [List.set_cons_zero] at hS6; have hrd6 := Lib.hid (rsl_Rd (hS6.rd 1 (e := 30) (v := u3) (us := uo) rfl) (lo := m) (hi := k) (by omega) (by rw [hlo.out]; omega)); have hone6 := Lib.hid (fun u (hu : u ∈ (uo.take k).drop m) => hone.out u (List.mem_of_mem_take (List.mem_of_mem_drop hu))); have hN6 := Lib.hid (show (uo.take m ++ [Value.slice ua (xat A k).length uc]).length + ((uo.take k).drop m).length ≤ 4294967296 by simp only [List.length_append, List.length_drop, List.length_take, List.length_singleton, hlo.out]; omega)))
          simp only [List.set_cons_zero] at hS7
          go_roundw
          case rel =>
            refine ⟨k + 1, uo.take m ++ [.slice ua (xat A k).length uc] ++ uo.drop m, by omega, by go_num, by rw [Hid, srtL_len, List.length_take]; simp [hlo.out]; omega, ?_⟩
            have he := ins_srt hlt hm HA1.out hI.out
            rw [← he]
            rw [show (uo.take k).drop m = uo.drop m by rw [← hlS, ← hlo.out, List.take_length]] at hS7
            have hp := hS7.sub (L' := row 30 v7 (uo.take m ++ [.slice ua (xat A k).length uc] ++ uo.drop m) :: (rowsI uo S ++ [row 2 (.slice ua (xat A k).length uc) (iv (xat A k))])) ((List.sublist_cons_self _ _).cons_cons _)
            refine hp.perm ?_
            unfold own2
            refine List.Perm.cons _ ?_
            exact rows_ins hlo.out hm _ _
          case measure => simp [intOf]; omega
    · obtain rfl : k = A.length := by omega
      rw [List.take_length] at hS hlo
      go_wp2_with fail
      go_ret
      exact ⟨_, uo, rfl, hlo.out, hS⟩
end Go.Proofs.YtegmjlblehjccaaGreat
end

section
/- Plain: a number put into an increasing list. -/
namespace Go.Proofs.YtegmjlblehjccaaGreat
set_option linter.unusedSimpArgs false
set_option linter.unusedVariables false

/-- a number put into an increasing list -/
def putL : List Int → Int → List Int
  | [], n => [n]
  | x :: r, n => if n < x then n :: x :: r else if x = n then x :: r else x :: putL r n
theorem putL_len : ∀ (xs : List Int) (n : Int), (putL xs n).length ≤ xs.length + 1
  | [], n => by simp [putL]
  | x :: r, n => by
    rw [putL]
    split
    · simp
    · split
      · simp
      · have := putL_len r n; simp; omega
end Go.Proofs.YtegmjlblehjccaaGreat
end

section
/- Walks: the reference puts a number into an increasing list. -/
namespace Go.Proofs.YtegmjlblehjccaaGreat
set_option linter.unusedSimpArgs false
set_option linter.unusedVariables false
open Go.RowKit


/-- what l00Put has made so far -/
def PutI (xs : List Int) (n : Int) (k : Nat) (b : Bool) (ys : List Int) : Prop :=
  (b = false → ys = xs.take k ∧ putL xs n = xs.take k ++ putL (xs.drop k) n) ∧ (b = true → ys ++ xs.drop k = putL xs n)
theorem PutI.len {xs : List Int} {n : Int} {k : Nat} {b : Bool} {ys : List Int} (h : PutI xs n k b ys) (hk : k ≤ xs.length) : ys.length ≤ xs.length + 1 := by
  cases b
  · rw [(h.1 rfl).1, List.length_take]; omega
  · have h1 := congrArg List.length (h.2 rfl)
    have := putL_len xs n
    rw [List.length_append] at h1; omega
theorem PutI.go {xs : List Int} {n : Int} {k : Nat} {ys : List Int} (h : PutI xs n k true ys) (hk : k < xs.length) : PutI xs n (k + 1) true (ys ++ [nth xs k]) :=
  ⟨fun h => absurd h (by decide), fun _ => by rw [← h.2 rfl, drop_nth hk]; simp⟩
theorem PutI.lt {xs : List Int} {n : Int} {k : Nat} {ys : List Int} (h : PutI xs n k false ys) (hk : k < xs.length) (hn : nth xs k < n) : PutI xs n (k + 1) false (ys ++ [nth xs k]) := by
  obtain ⟨h1, h2⟩ := h.1 rfl
  refine ⟨fun _ => ⟨by rw [h1, take_nth hk], ?_⟩, fun h => absurd h (by decide)⟩
  rw [h2, drop_nth hk, putL, if_neg (by omega), if_neg (by omega), take_nth hk]; simp
theorem PutI.eq {xs : List Int} {n : Int} {k : Nat} {ys : List Int} (h : PutI xs n k false ys) (hk : k < xs.length) (hn : nth xs k = n) : PutI xs n (k + 1) true (ys ++ [nth xs k]) := by
  obtain ⟨h1, h2⟩ := h.1 rfl
  refine ⟨fun h => absurd h (by decide), fun _ => ?_⟩
  rw [h2, drop_nth hk, putL, if_neg (by omega), if_pos hn, h1]; simp
theorem PutI.gt {xs : List Int} {n : Int} {k : Nat} {ys : List Int} (h : PutI xs n k false ys) (hk : k < xs.length) (hn : n < nth xs k) : PutI xs n (k + 1) true ((ys ++ [n]) ++ [nth xs k]) := by
  obtain ⟨h1, h2⟩ := h.1 rfl
  refine ⟨fun h => absurd h (by decide), fun _ => ?_⟩
  rw [h2, drop_nth hk, putL, if_pos hn, h1]; simp
theorem PutI.end0 {xs : List Int} {n : Int} {ys : List Int} (h : PutI xs n xs.length false ys) : ys ++ [n] = putL xs n := by
  obtain ⟨h1, h2⟩ := h.1 rfl
  rw [h2, h1, List.drop_length, putL]
theorem PutI.end1 {xs : List Int} {n : Int} {ys : List Int} (h : PutI xs n xs.length true ys) : ys = putL xs n := by
  have := h.2 rfl
  rwa [List.drop_length, List.append_nil] at this
set_option maxHeartbeats 2000000 in
set_option maxRecDepth 100000 in
theorem l00PutX_c (v : Value) (xs : List Int) (n : Int) (w : World) (hv : RdI w v xs) (hxs : xs.length ≤ 1000000) :
    Calls Tryz.prog 38 #[v, .int .i64 n] w (MakesI w (putL xs n)) := by
  have hln := hv.len
  have hix := hv.ix
  have hm := hv.le
  go_enter Tryz.func38, Tryz.ntmps38
  go_wp2_with fail
  go_loopw [5, 6, 7] (fun o d i wr => ∃ (k : Nat) (b : Bool) (ys : List Int), k ≤ xs.length ∧ i = .int .i64 k ∧ d = .bool b ∧ Hid (PutI xs n k b ys) ∧ ys.length ≤ xs.length + 1 ∧ St w.heap.size w wr [row 2 o (iv ys)]) (fun _ _ i _ => xs.length - (intOf i).toNat)
  case atStart => exact ⟨0, false, [], by omega, rfl, rfl, ⟨fun _ => ⟨rfl, rfl⟩, fun h => absurd h (by decide)⟩, by simp, St.emp0⟩
  case round =>
    obtain ⟨k, b, ys, hk, rfl, rfl, hI, hy, hS⟩ := hrel
    by_cases hlt : k < xs.length
    · have hc := (hS.oldI hv).cell k hlt
      cases b
      · by_cases h1 : n ≤ nth xs k
        · by_cases h2 : n < nth xs k
          · have hJ := Lib.hid (hI.out.gt hlt h2)
            have hJl := hJ.out.len hlt
            go_wp2_with (first | (at_builtin; refine appI hS 0 rfl (by omega) rfl (.tmp 31) (.tmp 33) rfl rfl _ rfl ?_; intro v' w2 hS2; have hc2 := (hS2.oldI hv).cell k hlt) | (at_builtin; refine appI hS2 0 rfl (by simp; omega) rfl (.tmp 35) (.tmp 40) rfl rfl _ rfl ?_; intro v2 w3 hS3))
            go_roundw
            case rel => exact ⟨k + 1, true, _, by omega, by go_num, rfl, hJ.out, hJl, hS3⟩
            case measure => simp [intOf]; omega
          · have hJ := Lib.hid (hI.out.eq hlt (by omega))
            have hJl := hJ.out.len hlt
            go_wp2_with (at_builtin; refine appI hS 0 rfl (by omega) rfl (.tmp 35) (.tmp 40) rfl rfl _ rfl ?_; intro v2 w3 hS3)
            go_roundw
            case rel => exact ⟨k + 1, true, _, by omega, by go_num, rfl, hJ.out, hJl, hS3⟩
            case measure => simp [intOf]; omega
        · have hJ := Lib.hid (hI.out.lt hlt (by omega))
          have hJl := hJ.out.len hlt
          go_wp2_with (at_builtin; refine appI hS 0 rfl (by omega) rfl (.tmp 35) (.tmp 40) rfl rfl _ rfl ?_; intro v2 w3 hS3)
          go_roundw
          case rel => exact ⟨k + 1, false, _, by omega, by go_num, rfl, hJ.out, hJl, hS3⟩
          case measure => simp [intOf]; omega
      · have hJ := Lib.hid (hI.out.go hlt)
        have hJl := hJ.out.len hlt
        go_wp2_with (at_builtin; refine appI hS 0 rfl (by omega) rfl (.tmp 35) (.tmp 40) rfl rfl _ rfl ?_; intro v2 w3 hS3)
        go_roundw
        case rel => exact ⟨k + 1, true, _, by omega, by go_num, rfl, hJ.out, hJl, hS3⟩
        case measure => simp [intOf]; omega
    · obtain rfl : k = xs.length := by omega
      cases b
      · have hJ := Lib.hid hI.out.end0
        go_wp2_with (at_builtin; refine appI hS 0 rfl (by omega) rfl (.tmp 44) (.tmp 46) rfl rfl _ rfl ?_; intro v2 w3 hS3)
        go_ret
        exact ⟨_, rfl, by rw [← hJ.out]; exact hS3⟩
      · have hJ := Lib.hid hI.out.end1
        go_wp2_with fail
        go_ret
        exact ⟨_, rfl, by rw [← hJ.out]; exact hS⟩
end Go.Proofs.YtegmjlblehjccaaGreat
end

section
/- Walks: complements, derived and residual designs. -/
namespace Go.Proofs.YtegmjlblehjccaaGreat
set_option linter.unusedSimpArgs false
set_option linter.unusedVariables false
open Go.RowKit
attribute [local go_sem ↓] Go.wp_at_zero Go.wp_at_succ
theorem upF_len (f : Int → Bool) : ∀ k lo, (upF f lo k).length ≤ k
  | 0, _ => Nat.le_refl _
  | k + 1, lo => by
    rw [upF]
    split
    · simpa using upF_len f k (lo + 1)
    · exact Nat.le_succ_of_le (upF_len f k (lo + 1))
end Go.Proofs.YtegmjlblehjccaaGreat
end

section
/- Walks: derived and residual designs. -/
namespace Go.Proofs.YtegmjlblehjccaaGreat
set_option linter.unusedSimpArgs false
set_option linter.unusedVariables false
open Go.RowKit
attribute [local go_sem ↓] Go.wp_at_zero Go.wp_at_succ

def meB (b S : List Int) : List Int := ifSets b S (mee b S)
end Go.Proofs.YtegmjlblehjccaaGreat
end

section
/- Walks: designs that the reference draws. -/
namespace Go.Proofs.YtegmjlblehjccaaGreat
set_option linter.unusedSimpArgs false
set_option linter.unusedVariables false
open Go.RowKit
attribute [local go_sem ↓] Go.wp_at_zero Go.wp_at_succ

theorem putL_inc : ∀ {xs : List Int} {l n x : Int}, incB l n xs = true → l < x → x < n → incB l n (putL xs x) = true
  | [], l, n, x, _, h1, h2 => by rw [putL, incB, if_neg (by omega)]; rfl
  | a :: r, l, n, x, h, h1, h2 => by
    rw [incB] at h
    by_cases hc : a ≤ l ∨ n ≤ a
    · rw [if_pos hc] at h; cases h
    · rw [if_neg hc] at h
      rw [putL]
      by_cases h3 : x < a
      · rw [if_pos h3, incB, if_neg (by omega), incB, if_neg (by omega)]; exact h
      · rw [if_neg h3]
        by_cases h4 : a = x
        · rw [if_pos h4, incB, if_neg hc]; exact h
        · rw [if_neg h4, incB, if_neg hc]; exact putL_inc h (by omega) h2
end Go.Proofs.YtegmjlblehjccaaGreat
end

section
/- Walks: permutations that are made and drawn; composition, inverses. Walks: composition and inverses of permutations. -/
namespace Go.Proofs.YtegmjlblehjccaaGreat
set_option linter.unusedSimpArgs false
set_option linter.unusedVariables false
open Go.RowKit
attribute [local go_sem ↓] Go.wp_at_zero Go.wp_at_succ


set_option maxHeartbeats 1000000 in
set_option maxRecDepth 100000 in
theorem l04One_c (n : Nat) (w : World) (hn : n ≤ 1000) : Calls Tryz.prog 59 #[.int .i64 n] w (MakesI w (iot n)) := by
  have hS0 : St w.heap.size w (w.alloc (.cells #[] 2)) [row 2 (.slice (some ⟨w.heap.size, 0, none⟩) 0 0) (iv [])] := (St.refl w).new 2 #[] (by simp)
  go_enter Tryz.func59, Tryz.ntmps59
  go_wp2_with fail
  go_loopw [3, 4] (fun o x wr => ∃ k : Nat, k ≤ n ∧ x = .int .i64 k ∧ St w.heap.size w wr [row 2 o (iv (iot k))]) (fun _ x _ => n - (intOf x).toNat)
  case atStart => exact ⟨0, by omega, rfl, hS0⟩
  case round =>
    obtain ⟨k, hk, rfl, hS⟩ := hrel
    have hkl := iot_len k
    by_cases hlt : k < n
    · go_wp2_with (at_builtin; refine appI hS 0 rfl (by omega) rfl _ _ rfl rfl _ rfl ?_; intro v2 w2 hS2)
      go_roundw
      case rel => exact ⟨k + 1, by omega, by go_num, by rw [iot_succ]; exact hS2⟩
      case measure => simp [intOf]; omega
    · obtain rfl : k = n := by omega
      go_wp2_with fail
      go_ret
      exact ⟨_, rfl, hS⟩
/-- a permutation of n numbers, and the source goes on -/
def PermS (w0 : World) (cv : Value) (g K n : Nat) (L : List Ent) (e : Ending) (w' : World) : Prop := ∃ v xs, e = .returned v ∧ xs.length = n ∧ IsP xs ∧ Src w0 w' cv g K (row 2 v (iv xs) :: L)
set_option maxHeartbeats 2000000 in
set_option maxRecDepth 100000 in
theorem l04DrawPerm_c (w0 w : World) (cv : Value) (bs : List UInt8) (g K : Nat) (L : List Ent) (n : Nat) (hb : RdB w0 cv bs) (h : Src w0 w cv g K L) (hK : K < 100000000000) (hn : n ≤ 1000) :
    Calls Tryz.prog 61 #[.pointer (some ⟨g, 0, none⟩), .int .i64 n] w (PermS w0 cv g (K + 2 * n) n L) := by
  go_enter Tryz.func61, Tryz.ntmps61
  go_wp2_with fail
  refine (l04One_c n w hn).mono ?_
  rintro e w1 ⟨u, rfl, h1⟩
  have h2 := (h.call h1).perm List.perm_append_comm
  simp only [List.cons_append, List.nil_append] at h2
  clear h h1
  go_wp2_with fail
  go_loopw [6, 7, 8] (fun x _ _ wr => ∃ (j : Nat) (xs : List Int), j ≤ n ∧ x = .int .i64 ((j : Int) - 1) ∧ Hid (xs.length = n) ∧ Hid (IsP xs) ∧ Src w0 wr cv g (K + 2 * (n - j)) (row 2 u (iv xs) :: L)) (fun x _ _ _ => (intOf x).toNat)
  case atStart => exact ⟨n, iot n, by omega, by go_num, iot_len n, iot_isP n, h2.mono (by omega)⟩
  case round =>
    clear h2
    obtain ⟨j, xs, hj, rfl, hl, hp, hs⟩ := hrel
    by_cases h2 : 2 ≤ j
    · go_wp2_with fail
      refine (pick_c w0 wr cv bs g _ _ _ hb hs (by omega)).mono ?_
      rintro e w2 ⟨x, x0, x1, rfl, h3⟩
      obtain ⟨y, rfl⟩ := Int.eq_ofNat_of_zero_le x0
      have hyj : y < j := by omega
      have hyk : y < n := by omega
      have hr := h3.rdI 0 rfl
      have hi1 := hr.ixe ((j : Int) - 1) (j - 1) (by omega) (by rw [hl.out]; omega)
      have hi2 := hr.ixe (y : Int) y rfl (by rw [hl.out]; omega)
      have hc1 := hr.cell (j - 1) (by rw [hl.out]; omega)
      have hc2 := hr.cell y (by rw [hl.out]; omega)
      have Hsw := Lib.hid (hp.out.swp (i := j - 1) (k := y) (by rw [hl.out]; omega) (by rw [hl.out]; omega))
      obtain ⟨pp, ss, s0, s1, hS⟩ := h3
      clear hr x1 x0 hs
      go_wp2_with (first
        | (refine stoI hS2 1 rfl y (by rw [List.length_set, hl.out]; exact hyk) rfl _ _ rfl rfl _ rfl ?_; intro w3 hS3)
        | (refine stoI hS 1 rfl (j - 1) (by rw [hl.out]; omega) rfl _ _ rfl rfl _ rfl ?_; intro w2 hS2))
      go_roundw
      case rel => exact ⟨j - 1, swp2 xs (j - 1) y, by omega, by go_num, by unfold Hid; rw [swp2_len]; exact hl.out, Hsw.out, pp, ss, s0, by omega, hS3⟩
      case measure => simp [intOf]; omega
    · go_wp2_with fail
      go_ret
      exact ⟨_, xs, rfl, hl.out, hp.out, hs.mono (by omega)⟩
set_option maxHeartbeats 1000000 in
set_option maxRecDepth 100000 in
theorem ident_c (n : Nat) (w : World) (hn : n ≤ 1048576) : Calls Tryz.prog 43 #[.int .i64 n] w (MakesI w (iot n)) := by
  go_enter Tryz.func43, Tryz.ntmps43
  go_wp2_with (at_make; refine mkI (St.refl w) rfl _ _ rfl _ _ n rfl rfl (by omega) ?_; intro v1 w1 hS1; have hr := hS1.rdI 0 rfl; have hln := hr.len; have hix := hr.ix; simp only [List.length_replicate] at hln hix; clear hr)
  go_loopw [4, 9] (fun _ i wr => ∃ k : Nat, k ≤ n ∧ i = .int .i64 k ∧ St w.heap.size w wr [row 2 v1 (iv (iot k ++ List.replicate (n - k) 0))]) (fun _ i _ => n - (intOf i).toNat)
  case atStart => exact ⟨0, by omega, rfl, hS1⟩
  case round =>
    obtain ⟨k, hk, rfl, hS⟩ := hrel
    by_cases hlt : k < n
    · go_wp2_with (refine stoI hS 0 rfl k (by simp [iot]; omega) rfl _ _ rfl rfl _ rfl ?_; intro w2 hS2)
      go_roundw
      case rel =>
        refine ⟨k + 1, by omega, by go_num, ?_⟩
        have e : (iot k ++ List.replicate (n - k) 0).set k (k : Int) = iot (k + 1) ++ List.replicate (n - (k + 1)) 0 := by
          rw [List.set_append_right _ _ (by rw [iot_len]; omega), iot_len, show n - k = (n - (k + 1)) + 1 by omega, List.replicate_succ]
          simp [iot, List.range_succ]
        rw [← e]; exact hS2
      case measure => simp [intOf]; omega
    · obtain rfl : k = n := by omega
      go_wp2_with fail
      go_ret
      refine ⟨_, rfl, ?_⟩
      simpa using hS

end Go.Proofs.YtegmjlblehjccaaGreat
end

section
/- Walks: images of designs under drawn permutations. -/
namespace Go.Proofs.YtegmjlblehjccaaGreat
set_option linter.unusedSimpArgs false
set_option linter.unusedVariables false
open Go.RowKit
attribute [local go_sem ↓] Go.wp_at_zero Go.wp_at_succ

/-- the images of the first points of a set -/
def imgS (p ss : List Int) : Nat → List Int
  | 0 => []
  | k + 1 => putL (imgS p ss k) (nth p (nth ss k).toNat)
def imgB (p ss : List Int) : List Int := imgS p ss ss.length
theorem imgS_len (p ss : List Int) : ∀ k, (imgS p ss k).length ≤ k
  | 0 => Nat.le_refl _
  | k + 1 => by rw [imgS]; have := putL_len (imgS p ss k) (nth p (nth ss k).toNat); have := imgS_len p ss k; omega
set_option maxHeartbeats 2000000 in
set_option maxRecDepth 100000 in
theorem l04Image_c (vp vs : Value) (p ss : List Int) (w : World) (hp : RdI w vp p) (hs : RdI w vs ss) (hb : ∀ x ∈ ss, 0 ≤ x ∧ x < p.length) (hl : ss.length ≤ 1000) :
    Calls Tryz.prog 158 #[vp, vs] w (MakesI w (imgB p ss)) := by
  have hln := hs.len
  have hix := hs.ix
  have hxp := hp.ixe
  have Hb := Lib.hid hb
  have h0 := St.emp0 (w := w)
  clear hb
  go_enter Tryz.func158, Tryz.ntmps158
  go_wp2_with fail
  go_loopw [5, 6] (fun o i wr => ∃ k : Nat, k ≤ ss.length ∧ i = .int .i64 k ∧ St w.heap.size w wr [row 2 o (iv (imgS p ss k))]) (fun _ i _ => ss.length - (intOf i).toNat)
  case atStart => exact ⟨0, by omega, rfl, h0⟩
  case round =>
    clear h0
    obtain ⟨k, hk, rfl, hS⟩ := hrel
    by_cases hlt : k < ss.length
    · have ck := (hS.oldI hs).cell k hlt
      have hbk := Hb.out _ (nth_mem hlt)
      obtain ⟨x, hx⟩ := Int.eq_ofNat_of_zero_le hbk.1
      rw [hx] at ck
      have hxl : x < p.length := by omega
      have cx := (hS.oldI hp).cell x hxl
      have xx := hxp (x : Int) x rfl hxl
      have hst : Hid (imgS p ss (k + 1) = putL (imgS p ss k) (nth p x)) := by rw [Hid, imgS, hx]; rfl
      have hil := imgS_len p ss k
      have hrx := hS.rdI 0 rfl
      clear hx hbk
      go_wp2_with fail
      refine (l00PutX_c u5 (imgS p ss k) (nth p x) _ hrx (by omega)).mono ?_
      rintro e w5 ⟨v5, rfl, h6⟩
      have h7 := (hS.call h6).sub (L' := [row 2 v5 (iv (putL (imgS p ss k) (nth p x)))]) (List.sublist_append_right _ _)
      clear hS h6 hrx
      go_wp2_with fail
      go_roundw
      case rel => exact ⟨k + 1, by omega, by go_num, by rw [hst.out]; exact h7⟩
      case measure => simp [intOf]; omega
    · obtain rfl : k = ss.length := by omega
      go_wp2_with fail
      go_ret
      exact ⟨_, rfl, hS⟩
def imgL (p : List Int) (A : List (List Int)) : List (List Int) := A.map (imgB p)
theorem imgL_take {p : List Int} {A : List (List Int)} {k : Nat} (h : k < A.length) : imgL p (A.take (k + 1)) = imgL p (A.take k) ++ [imgB p (xat A k)] := by
  rw [imgL, take_xat h, List.map_append]; rfl
/-- a design of its own, by value -/
def MakesDV (w : World) (P : Int) (A : List (List Int)) (e : Ending) (w' : World) : Prop := ∃ v us, e = .returned (dv P v) ∧ us.length = A.length ∧ St w.heap.size w w' (own2 v us A)
set_option maxHeartbeats 4000000 in
set_option maxRecDepth 100000 in
theorem l10Image_c (P : Nat) (g : Nat) (v : Value) (us : List Value) (A : List (List Int)) (vp : Value) (p : List Int) (w : World) (hv : RII w v us A) (hbd : BoxD w g P v) (hp : RdI w vp p) (hD : dOk P A = true) (hpl : p.length = P) :
    Calls Tryz.prog 96 #[.pointer (some ⟨g, 0, none⟩), vp] w (MakesDV w P (srtL (imgL p A))) := by
  have hDk := dOk_t hD
  have hDl := hDk.len
  have hPl := hDk.le
  have HI := Lib.hid (fun k (hk : k < A.length) => (show (∀ x ∈ xat A k, 0 ≤ x ∧ x < p.length) ∧ (xat A k).length ≤ 32 from by
    have hi := hDk.inc _ (xat_mem hk)
    refine ⟨fun x hx => by have := incB_gt hi x hx; omega, ?_⟩
    have := inc_len hi (by omega); omega))
  clear hDk hD
  have hln := hv.len
  have hixe := hv.ixe
  have hS0 := (St.refl w).newboxF 26 #[.int .i64 0, .slice none 0 0]
  have hS1 : St w.heap.size w ((w.alloc (.cells #[.int .i64 0, .slice none 0 0] 26)).alloc (.cells #[] 30)) (box 26 w.heap.size [.int .i64 0, .slice none 0 0] :: own2 (.slice (some ⟨w.heap.size + 1, 0, none⟩) 0 0) [] (imgL p (A.take 0))) := by
    have := hS0.new 30 #[] (by simp)
    simp only [World.size_alloc, List.size_toArray, List.length_nil] at this
    exact this
  clear hS0
  go_enter Tryz.func96, Tryz.ntmps96
  go_wp2_with fail
  go_loopw [5, 6] (fun o i wr => ∃ (k : Nat) (uo : List Value), k ≤ A.length ∧ i = .int .i64 k ∧ Hid (uo.length = (imgL p (A.take k)).length) ∧ St w.heap.size w wr (box 26 w.heap.size [.int .i64 0, .slice none 0 0] :: own2 o uo (imgL p (A.take k)))) (fun _ i _ => A.length - (intOf i).toNat)
  case atStart => exact ⟨0, [], by omega, rfl, rfl, hS1⟩
  case round =>
    clear hS1
    obtain ⟨k, uo, hk, rfl, hl, hS⟩ := hrel
    have b0 := (hS.oldBoxD hbd).1
    have b1 := (hS.oldBoxD hbd).2
    by_cases hlt : k < A.length
    · have ck := (hS.oldII hv).cell k hlt
      have xk := hixe (k : Int) k rfl hlt
      have rk := Lib.hid ((hS.oldII hv).row k hlt)
      have rp := Lib.hid (hS.oldI hp)
      have Hk := Lib.hid (imgL_take (p := p) hlt)
      have hlk : Hid ((imgL p (A.take k)).length = k) := by unfold Hid imgL; rw [List.length_map, List.length_take]; omega
      obtain ⟨hi1, hi2⟩ := HI.out k hlt
      have hcall := Lib.hid (l04Image_c _ _ _ _ _ rp.out rk.out hi1 (by omega))
      clear hi1 hi2
      go_wp2_with fail
      refine hcall.out.mono ?_
      rintro e w5 ⟨v5, rfl, h5⟩
      have hsl := (h5.rdI (xs := imgB p (xat A k)) 0 rfl).sl
      have hone := Lib.hid hsl.one
      obtain ⟨ua, uc, hle⟩ := hsl.sh
      rw [iv_len] at hle
      subst hle
      have hS5 := hS.call h5
      simp only [List.cons_append] at hS5
      clear hsl hS h5 hcall
      go_wp2_with (at_builtin; refine appII hS5 1 rfl (by rw [hl.out, hlk.out]; omega) rfl _ _ rfl rfl _ hone.out rfl ?_; intro v6 w6 hS6)
      go_roundw
      case rel =>
        refine ⟨k + 1, uo ++ [.slice ua (imgB p (xat A k)).length uc], by omega, by go_num, by rw [Hid, Hk.out]; simp [hl.out], ?_⟩
        rw [Hk.out, own2, rowsI_app hl.out]
        have h9 : St w.heap.size w w6 (box 26 w.heap.size [.int .i64 0, .slice none 0 0] :: row 30 v6 (uo ++ [.slice ua (imgB p (xat A k)).length uc]) :: (rowsI uo (imgL p (A.take k)) ++ [row 2 (.slice ua (imgB p (xat A k)).length uc) (iv (imgB p (xat A k)))])) := hS6
        exact h9
      case measure => simp [intOf]; omega
    · obtain rfl : k = A.length := by omega
      rw [List.take_length] at hS hl
      have hll : (imgL p A).length = A.length := by simp [imgL]
      have ro := (hS.sub (List.sublist_cons_self _ _)).rii hl.out
      have HSt := Lib.hid (l10Sort_c u5 uo (imgL p A) wr ro (by omega) (fun xs hx => by
        obtain ⟨b, hb, rfl⟩ := List.mem_map.1 hx
        obtain ⟨j, hj, rfl⟩ := List.getElem_of_mem hb
        have := (HI.out j hj).2
        rw [xat_eq hj] at this
        exact Nat.le_trans (imgS_len p _ _) (by omega)))
      have b0 := (hS.oldBoxD hbd).1
      have hSd := hS.drew
      clear ro
      go_wp2_with fail
      refine regionG (fun w' => w'.cell? ⟨g, 0, none⟩ = some (.int .i64 P)) 7 (by kernel_rfl) (cell_dr b0) (fun hHeld => ?_)
      refine takeP (i := 0) (v := ?_) rfl (by kernel_rfl) (fun _ _ _ h => h) (by rfl) ?_ (by assumption) ?_
      case refine_2 => (intro w'; go_simp; first | done | with_reducible rfl)
      try simp only [Act.put, List.setIfInBounds_toArray, List.set_cons_zero, List.set_cons_succ]
      refine takeP (i := 1) (v := ?_) rfl (by kernel_rfl) (fun _ _ _ h => h) (by rfl) ?_ (by assumption) ?_
      case refine_2 => (intro w'; go_simp; first | done | with_reducible rfl)
      try simp only [Act.put, List.setIfInBounds_toArray, List.set_cons_zero, List.set_cons_succ]
      refine takeP (i := 2) (v := ?_) rfl (by kernel_rfl) (fun _ _ _ h => h) (by rfl) ?_ (by assumption) ?_
      case refine_2 => (intro w'; go_simp; first | done | with_reducible rfl)
      try simp only [Act.put, List.setIfInBounds_toArray, List.set_cons_zero, List.set_cons_succ]
      refine takeH (i := 3) [6] (v := ?_) rfl (by kernel_rfl) (fun _ _ _ h => h) (by rfl) ?_ (by assumption) ?_
      case refine_2 => (intro w' hSw; (try dsimp only at hSw); go_simp; first | done | with_reducible rfl)
      try simp only [Act.put, List.setIfInBounds_toArray, List.set_cons_zero, List.set_cons_succ]
      refine takeP (i := 4) (v := ?_) rfl (by kernel_rfl) (fun _ _ _ h => h) (by rfl) ?_ (by assumption) ?_
      case refine_2 => (intro w'; go_simp; first | done | with_reducible rfl)
      try simp only [Act.put, List.setIfInBounds_toArray, List.set_cons_zero, List.set_cons_succ]
      refine readyG (rs := [5]) (by kernel_rfl) (by simp) ?_
      refine AllG.cons rfl (fun K hK => ?_) AllG.nil
      go_simp
      have HSt2 := Lib.hid (l10Sort_c u5 uo (imgL p A) _ ((hSd.sub (List.sublist_cons_self _ _)).rii hl.out) (by omega) (fun xs hx => by
        obtain ⟨b, hb, rfl⟩ := List.mem_map.1 hx
        obtain ⟨j, hj, rfl⟩ := List.getElem_of_mem hb
        have := (HI.out j hj).2
        rw [xat_eq hj] at this
        exact Nat.le_trans (imgS_len p _ _) (by omega)))
      refine HSt2.out.mono ?_
      clear HSt2 HSt
      rintro e w5 ⟨v5, us5, rfl, hl5, h5⟩
      obtain ⟨ua, uc, hv5⟩ := (h5.rd 0 (e := 30) (v := v5) (us := us5) rfl).sl.sh
      rw [hl5, srtL_len, hll] at hv5
      subst hv5
      have hB5 := hSd.call h5
      have e0 := (hB5.oldBoxD hbd).1
      have c0 := hB5.bcell 0 rfl 0 rfl
      have c1 := hB5.bcell 0 rfl 1 rfl
      have f0 := hB5.bfree 0 rfl
      refine hK.out _ _ e0 (fun hHeld => ?_)
      clear hK K
      try simp only [Act.put, List.setIfInBounds_toArray, List.set_cons_zero, List.set_cons_succ]
      refine takeP (i := 6) (v := ?_) rfl (by kernel_rfl) (fun _ _ _ h => h) (by rfl) ?_ (by assumption) ?_
      case refine_2 => (intro w'; go_simp; first | done | with_reducible rfl)
      try simp only [Act.put, List.setIfInBounds_toArray, List.set_cons_zero, List.set_cons_succ]
      refine readyG (rs := [7]) (by kernel_rfl) (by simp) ?_
      refine AllG.last rfl (by kernel_rfl) (fun K hK => ?_) AllG.nil
      go_simp
      refine hK.out _ _ ?_
      clear hK K
      try simp only [Act.put, List.setIfInBounds_toArray, List.set_cons_zero, List.set_cons_succ]
      refine doneG (by kernel_rfl) ?_ _
      refine NoPanic.normal ?_
      have h6 := (hB5.bstore 0 rfl 0 (.int .i64 P)).bstore 0 rfl 1 (.slice ua A.length uc)
      have d0 := h6.bcell 0 rfl 0 rfl
      have d1 := h6.bcell 0 rfl 1 rfl
      clear hB5 h5 c0 c1 e0 f0 hS hSd
      go_wp2_with fail
      refine bodyPost_ret (v := .agg #[.int .i64 P, .slice ua A.length uc]) (by simp [results, Tryz.results96, go_sem, d0, d1]) rfl ?_
      exact ⟨_, us5, rfl, hl5, h6.sub (L' := own2 (.slice ua A.length uc) us5 (srtL (imgL p A))) ((List.sublist_append_right (own2 u5 uo (imgL p A)) _).trans (List.sublist_cons_self _ _))⟩
end Go.Proofs.YtegmjlblehjccaaGreat
end

section
/- Walks: the parameters of a balanced design. -/
namespace Go.Proofs.YtegmjlblehjccaaGreat
set_option linter.unusedSimpArgs false
set_option linter.unusedVariables false
open Go.RowKit
attribute [local go_sem ↓] Go.wp_at_zero Go.wp_at_succ

/-- parameters as a value -/
def pmV (xs : List Int) : Value := .agg #[.int .i64 (nth xs 0), .int .i64 (nth xs 1), .int .i64 (nth xs 2), .int .i64 (nth xs 3), .int .i64 (nth xs 4)]
def MakesPr (w : World) (xs : List Int) (b : Bool) (e : Ending) (w' : World) : Prop := e = .returned (.tuple #[pmV xs, .bool b]) ∧ St w.heap.size w w' []
theorem prmV_no {P : Nat} {A : List (List Int)} (h : prmB P A = false) : prmV P A = [0, 0, 0, 0, 0] := by unfold prmV; rw [if_neg (by rw [h]; decide)]
theorem MakesPr.no {w w' : World} {L : List Ent} {P : Nat} {A : List (List Int)} (h : prmB P A = false) (hS : St w.heap.size w w' L) :
    MakesPr w (prmV P A) (prmB P A) (.returned (.tuple #[.agg #[.int .i64 0, .int .i64 0, .int .i64 0, .int .i64 0, .int .i64 0], .bool false])) w' := by
  rw [prmV_no h, h]; exact ⟨rfl, hS.out⟩
theorem prm_no1 {P : Nat} {A : List (List Int)} (h : ¬ (2 ≤ P ∧ 0 < A.length ∧ 2 ≤ (xat A 0).length)) : prmB P A = false := by
  unfold prmB
  by_cases h1 : 2 ≤ P
  · by_cases h2 : 0 < A.length
    · have h3 : ¬ 2 ≤ (xat A 0).length := fun h3 => h ⟨h1, h2, h3⟩
      simp [h3]
    · simp [h2]
  · simp [h1]
theorem prm_no2 {P : Nat} {A : List (List Int)} {k : Nat} (hk : k < A.length) (h : (xat A k).length ≠ (xat A 0).length) : prmB P A = false := by
  unfold prmB
  have : (A.all fun b => b.length == (xat A 0).length) = false := by
    rw [Bool.eq_false_iff]; intro hh
    have := List.all_eq_true.1 hh _ (xat_mem hk)
    simp at this; exact h this
  rw [this]; simp
theorem prm_no3 {P : Nat} {A : List (List Int)} {k : Nat} (hk : k < (parL P A).length) (h : nth (parL P A) k ≠ nth (parL P A) 0) : prmB P A = false := by
  unfold prmB
  have : ((parL P A).all fun c => c == nth (parL P A) 0) = false := by
    rw [Bool.eq_false_iff]; intro hh
    have := List.all_eq_true.1 hh _ (nth_mem hk)
    simp at this; exact h this
  rw [this]; simp
theorem prm_yes {P : Nat} {A : List (List Int)} (h1 : 2 ≤ P ∧ 0 < A.length ∧ 2 ≤ (xat A 0).length) (h2 : ∀ k, k < A.length → (xat A k).length = (xat A 0).length) (h3 : ∀ k, k < (parL P A).length → nth (parL P A) k = nth (parL P A) 0) : prmB P A = true := by
  unfold prmB
  have e1 : (A.all fun b => b.length == (xat A 0).length) = true := List.all_eq_true.2 fun b hb => by
    obtain ⟨k, hk, rfl⟩ := List.getElem_of_mem hb
    have := h2 k hk
    rw [xat_eq hk] at this; simp [this]
  have e2 : ((parL P A).all fun c => c == nth (parL P A) 0) = true := List.all_eq_true.2 fun b hb => by
    obtain ⟨k, hk, rfl⟩ := List.getElem_of_mem hb
    have := h3 k hk
    rw [nth_eq hk] at this; simp [this]
  rw [e1, e2]; simp [h1]
theorem prm_val {P : Nat} {A : List (List Int)} (h : prmB P A = true) : prmV P A = [(P : Int), (A.length : Int), nth (repL P A) 0, ((xat A 0).length : Int), nth (parL P A) 0] := by unfold prmV; rw [if_pos h]
theorem parL_pos {P : Nat} {A : List (List Int)} (h : 2 ≤ P) : 0 < (parL P A).length := by
  rw [← parK_end, show P = (P - 1) + 1 by omega]
  have : ∀ k, 0 < k → 0 < (parK (P - 1 + 1) A k).length := by
    intro k hk
    induction k with
    | zero => omega
    | succ k ih =>
      rw [parK_succ, List.length_append]
      rcases Nat.eq_zero_or_pos k with rfl | h0
      · simp [parR]; omega
      · have := ih h0; omega
  exact this _ (by omega)
theorem repL_len (P : Nat) (A : List (List Int)) : (repL P A).length = P := by simp [repL]

set_option maxHeartbeats 8000000 in
set_option maxRecDepth 100000 in
theorem parametersOf_c (P : Nat) (v : Value) (us : List Value) (A : List (List Int)) (w : World) (hv : RII w v us A) (hD : DOk P A) :
    Calls Tryz.prog 97 #[dv P v] w (MakesPr w (prmV P A) (prmB P A)) := by
  obtain ⟨a, c, hsh⟩ := hv.1.sl.sh
  rw [hv.2.1] at hsh
  subst hsh
  have hP := hD.le
  have hDl := hD.len
  have HD := Lib.hid hD
  clear hD
  have hS1 := ((St.refl w).newboxF 26 #[.int .i64 P, .slice a A.length c]).newboxF 114 #[.int .i64 0, .int .i64 0, .int .i64 0, .int .i64 0, .int .i64 0]
  simp only [World.size_alloc] at hS1
  have b0 := hS1.bcell 1 rfl 0 rfl
  have b1 := hS1.bcell 1 rfl 1 rfl
  have hix := hv.ix
  have f0 := hS1.bfree 0 rfl
  have r0 := hS1.bcell 0 rfl 0 rfl
  have r1 := hS1.bcell 0 rfl 1 rfl
  have r2 := hS1.bcell 0 rfl 2 rfl
  have r3 := hS1.bcell 0 rfl 3 rfl
  have r4 := hS1.bcell 0 rfl 4 rfl
  unfold dv
  by_cases h1 : 2 ≤ P
  · by_cases h2 : 0 < A.length
    · have fz := eq_f (show ¬ (A.length : Int) = 0 by omega)
      have cz := (hS1.oldII hv).cell 0 h2
      have hl0 := (hv.row 0 h2).len
      by_cases h3 : 2 ≤ (xat A 0).length
      · have HPC := Lib.hid (pairCounts_c P (.slice a A.length c) us A _ (hS1.oldII hv) HD.out)
        have hC0 := parL_pos (A := A) h1
        have H1 := Lib.hid (And.intro h1 (And.intro h2 h3))
        have h3' : ¬ ((xat A 0).length : Int) < 2 := by omega
        have h1' : ¬ (P : Int) < 2 := by omega
        have x0 := hv.ixe 0 0 rfl h2
        have HR := fun W h => Lib.hid (replicationsOf_c P (.slice a A.length c) us A W h HD.out)
        have hprm := Lib.hid (fun h h' => prm_val (prm_yes (A := A) H1.out h h'))
        have hprb := Lib.hid (fun h h' => prm_yes (A := A) H1.out h h')
        unfold dv at HPC HR
        go_enter Tryz.func97, Tryz.ntmps97
        go_wp2_with fail
        refine HPC.out.mono ?_
        clear HPC r0 r1 r2 r3 r4 f0 b0 b1 cz
        rintro e w2 ⟨vc, rfl, h4⟩
        have hS2 := hS1.call h4
        have b1 := hS2.bcell 1 rfl 1 rfl
        have hlc := (h4.rdI 0 rfl).len
        have hic := (h4.rdI 0 rfl).ix
        have xc0 := (h4.rdI 0 rfl).ixe 0 0 rfl hC0
        have hCle : (parL P A).length ≤ 1024 := by
          have := parK_len P A P
          have h2 : P * P ≤ 32 * 32 := Nat.mul_le_mul (by omega) (by omega)
          rw [parK_end] at this; omega
        have HN2 := Lib.hid (fun k (hk : k < A.length) (h : (xat A k).length ≠ (xat A 0).length) => prm_no2 (P := P) hk h)
        have HN3 := Lib.hid (fun k (hk : k < (parL P A).length) (h : nth (parL P A) k ≠ nth (parL P A) 0) => prm_no3 hk h)
        generalize parL P A = C at *
        clear hS1 h4
        simp only [List.cons_append, List.nil_append] at hS2
        go_wp2_with fail
        go_loopw [6, 32] (fun _ i wr => ∃ k : Nat, k ≤ A.length ∧ i = .int .i64 k ∧ Hid (∀ j, j < k → (xat A j).length = (xat A 0).length) ∧ St w.heap.size w wr [box 114 (w.heap.size + 1) [.int .i64 0, .int .i64 0, .int .i64 0, .int .i64 0, .int .i64 0], box 26 w.heap.size [.int .i64 P, .slice a A.length c], row 2 vc (iv C)]) (fun _ i _ => A.length - (intOf i).toNat)
        case atStart => exact ⟨0, by omega, rfl, fun j hj => by omega, hS2⟩
        case round =>
          clear hS2 b1
          obtain ⟨k, hk, rfl, hI, hS⟩ := hrel
          have b1 := hS.bcell 1 rfl 1 rfl
          by_cases hlt : k < A.length
          · have ck := (hS.oldII hv).cell k hlt
            have cz := (hS.oldII hv).cell 0 h2
            have hlk := (hv.row k hlt).len
            by_cases he : (xat A k).length = (xat A 0).length
            · have f := ne_f (show ((xat A k).length : Int) = (xat A 0).length by omega)
              have He := Lib.hid he
              clear he
              go_wp2_with fail
              go_roundw
              case rel => exact ⟨k + 1, by omega, by go_num, fun j hj => by
                by_cases e : j = k
                · rw [e]; exact He.out
                · exact hI.out j (by omega), hS⟩
              case measure => simp [intOf]; omega
            · have f := ne_t (fun e : ((xat A k).length : Int) = (xat A 0).length => he (by omega))
              have HN := Lib.hid (HN2.out k hlt he)
              clear he
              have r0 := hS.bcell 0 rfl 0 rfl
              have r1 := hS.bcell 0 rfl 1 rfl
              have r2 := hS.bcell 0 rfl 2 rfl
              have r3 := hS.bcell 0 rfl 3 rfl
              have r4 := hS.bcell 0 rfl 4 rfl
              have f0 := hS.bfree 0 rfl
              have hZ := ((((hS.bstore 0 rfl 0 (.int .i64 0)).bstore 0 rfl 1 (.int .i64 0)).bstore 0 rfl 2 (.int .i64 0)).bstore 0 rfl 3 (.int .i64 0)).bstore 0 rfl 4 (.int .i64 0)
              have z0 := hZ.bcell 0 rfl 0 rfl
              have z1 := hZ.bcell 0 rfl 1 rfl
              have z2 := hZ.bcell 0 rfl 2 rfl
              have z3 := hZ.bcell 0 rfl 3 rfl
              have z4 := hZ.bcell 0 rfl 4 rfl
              go_wp2_with fail
              refine bodyPost_ret (v := .tuple #[.agg #[.int .i64 0, .int .i64 0, .int .i64 0, .int .i64 0, .int .i64 0], .bool false]) (by simp [results, Tryz.results97, go_sem, z0, z1, z2, z3, z4]) rfl ?_
              exact MakesPr.no HN.out hZ
          · obtain rfl : k = A.length := by omega
            have hall := hI
            clear hI
            go_wp2_with fail
            go_loopw [8, 48] (fun _ i wr => ∃ k : Nat, k ≤ C.length ∧ i = .int .i64 k ∧ Hid (∀ j, j < k → nth C j = nth C 0) ∧ St w.heap.size w wr [box 114 (w.heap.size + 1) [.int .i64 0, .int .i64 0, .int .i64 0, .int .i64 0, .int .i64 0], box 26 w.heap.size [.int .i64 P, .slice a A.length c], row 2 vc (iv C)]) (fun _ i _ => C.length - (intOf i).toNat)
            case atStart => exact ⟨0, by omega, rfl, fun j hj => by omega, hS⟩
            case round =>
              clear hS b1
              obtain ⟨k, hk, rfl, hI, hS⟩ := hrel
              by_cases hlt : k < C.length
              · have ck := (hS.rdI 2 rfl).cell k hlt
                have cz := (hS.rdI 2 rfl).cell 0 hC0
                by_cases he : nth C k = nth C 0
                · have f := ne_f he
                  have He := Lib.hid he
                  clear he
                  go_wp2_with fail
                  go_roundw
                  case rel => exact ⟨k + 1, by omega, by go_num, fun j hj => by
                    by_cases e : j = k
                    · rw [e]; exact He.out
                    · exact hI.out j (by omega), hS⟩
                  case measure => simp [intOf]; omega
                · have f := ne_t he
                  have HN := Lib.hid (HN3.out k hlt he)
                  clear he
                  have r0 := hS.bcell 0 rfl 0 rfl
                  have r1 := hS.bcell 0 rfl 1 rfl
                  have r2 := hS.bcell 0 rfl 2 rfl
                  have r3 := hS.bcell 0 rfl 3 rfl
                  have r4 := hS.bcell 0 rfl 4 rfl
                  have f0 := hS.bfree 0 rfl
                  have hZ := ((((hS.bstore 0 rfl 0 (.int .i64 0)).bstore 0 rfl 1 (.int .i64 0)).bstore 0 rfl 2 (.int .i64 0)).bstore 0 rfl 3 (.int .i64 0)).bstore 0 rfl 4 (.int .i64 0)
                  have z0 := hZ.bcell 0 rfl 0 rfl
                  have z1 := hZ.bcell 0 rfl 1 rfl
                  have z2 := hZ.bcell 0 rfl 2 rfl
                  have z3 := hZ.bcell 0 rfl 3 rfl
                  have z4 := hZ.bcell 0 rfl 4 rfl
                  go_wp2_with fail
                  refine bodyPost_ret (v := .tuple #[.agg #[.int .i64 0, .int .i64 0, .int .i64 0, .int .i64 0, .int .i64 0], .bool false]) (by simp [results, Tryz.results97, go_sem, z0, z1, z2, z3, z4]) rfl ?_
                  exact MakesPr.no HN.out hZ
              · obtain rfl : k = C.length := by omega
                have HV := Lib.hid (hprm.out hall.out hI.out)
                have HB := Lib.hid (hprb.out hall.out hI.out)
                have b0 := hS.bcell 1 rfl 0 rfl
                have b1 := hS.bcell 1 rfl 1 rfl
                have cz := (hS.oldII hv).cell 0 h2
                have c0 := (hS.rdI 2 rfl).cell 0 hC0
                have hS3 := hS.drew
                clear hI hprm hprb HN2 HN3
                go_wp2_with fail
                refine regionG (fun w' => w'.cell? ⟨w.heap.size, 0, none⟩ = some (.int .i64 P) ∧ w'.cell? ⟨w.heap.size, 1, none⟩ = some (.slice a A.length c) ∧ w'.cell? (el (.slice a A.length c) 0) = some (vat us 0) ∧ w'.cell? (el vc 0) = some (.int .i64 (nth C 0))) 18 (by kernel_rfl) ⟨cell_dr b0, cell_dr b1, cell_dr cz, cell_dr c0⟩ (fun hHeld => ?_)
                refine takeP (i := 0) (v := ?_) rfl (by kernel_rfl) (fun _ _ _ h => h) (by rfl) ?_ (by assumption) ?_
                case refine_2 => (intro w'; go_simp; first | done | with_reducible rfl)
                try simp only [Act.put, List.setIfInBounds_toArray, List.set_cons_zero, List.set_cons_succ]
                refine takeH (i := 1) [17] (v := ?_) rfl (by kernel_rfl) (fun _ _ _ h => h) (by rfl) ?_ (by assumption) ?_
                case refine_2 => (intro w' hSw; (try dsimp only at hSw); go_simp; first | done | with_reducible rfl)
                try simp only [Act.put, List.setIfInBounds_toArray, List.set_cons_zero, List.set_cons_succ]
                refine takeP (i := 2) (v := ?_) rfl (by kernel_rfl) (fun _ _ _ h => h) (by rfl) ?_ (by assumption) ?_
                case refine_2 => (intro w'; go_simp; first | done | with_reducible rfl)
                try simp only [Act.put, List.setIfInBounds_toArray, List.set_cons_zero, List.set_cons_succ]
                refine takeH (i := 3) [4, 17] (v := ?_) rfl (by kernel_rfl) (fun _ _ _ h => h) (by rfl) ?_ (by assumption) ?_
                case refine_2 => (intro w' hSw; (try dsimp only at hSw); go_simp; first | done | with_reducible rfl)
                try simp only [Act.put, List.setIfInBounds_toArray, List.set_cons_zero, List.set_cons_succ]
                refine takeH (i := 5) [6, 7, 8, 17] (v := ?_) rfl (by kernel_rfl) (fun _ _ _ h => h) (by rfl) ?_ (by assumption) ?_
                case refine_2 => (intro w' hSw; (try dsimp only at hSw); go_simp; first | done | with_reducible rfl)
                try simp only [Act.put, List.setIfInBounds_toArray, List.set_cons_zero, List.set_cons_succ]
                refine takeP (i := 9) (v := ?_) rfl (by kernel_rfl) (fun _ _ _ h => h) (by rfl) ?_ (by assumption) ?_
                case refine_2 => (intro w'; go_simp; first | done | with_reducible rfl)
                try simp only [Act.put, List.setIfInBounds_toArray, List.set_cons_zero, List.set_cons_succ]
                refine takeH (i := 10) [11, 12, 13, 17] (v := ?_) rfl (by kernel_rfl) (fun _ _ _ h => h) (by rfl) ?_ (by assumption) ?_
                case refine_2 => (intro w' hSw; (try dsimp only at hSw); go_simp; first | done | with_reducible rfl)
                try simp only [Act.put, List.setIfInBounds_toArray, List.set_cons_zero, List.set_cons_succ]
                refine takeP (i := 11) (v := ?_) rfl (by kernel_rfl) (fun _ _ _ h => h) (by rfl) ?_ (by assumption) ?_
                case refine_2 => (intro w'; go_simp; first | done | with_reducible rfl)
                try simp only [Act.put, List.setIfInBounds_toArray, List.set_cons_zero, List.set_cons_succ]
                refine takeH (i := 12) [13, 17] (v := ?_) rfl (by kernel_rfl) (fun _ _ _ h => h) (by rfl) ?_ (by assumption) ?_
                case refine_2 => (intro w' hSw; (try dsimp only at hSw); go_simp; first | done | with_reducible rfl)
                try simp only [Act.put, List.setIfInBounds_toArray, List.set_cons_zero, List.set_cons_succ]
                refine takeP (i := 14) (v := ?_) rfl (by kernel_rfl) (fun _ _ _ h => h) (by rfl) ?_ (by assumption) ?_
                case refine_2 => (intro w'; go_simp; first | done | with_reducible rfl)
                try simp only [Act.put, List.setIfInBounds_toArray, List.set_cons_zero, List.set_cons_succ]
                refine takeP (i := 15) (v := ?_) rfl (by kernel_rfl) (fun _ _ _ h => h) (by rfl) ?_ (by assumption) ?_
                case refine_2 => (intro w'; go_simp; first | done | with_reducible rfl)
                try simp only [Act.put, List.setIfInBounds_toArray, List.set_cons_zero, List.set_cons_succ]
                refine takeH (i := 16) [17] (v := ?_) rfl (by kernel_rfl) (fun _ _ _ h => h) (by rfl) ?_ (by assumption) ?_
                case refine_2 => (intro w' hSw; (try dsimp only at hSw); go_simp; first | done | with_reducible rfl)
                try simp only [Act.put, List.setIfInBounds_toArray, List.set_cons_zero, List.set_cons_succ]
                refine readyG (rs := [4]) (by kernel_rfl) (by simp) ?_
                refine AllG.cons rfl (fun K hK => ?_) AllG.nil
                go_simp
                refine (szII_c _ us A _ (hS3.oldII hv)).mono ?_
                rintro e w4 ⟨rfl, rfl⟩
                refine hK.out _ _ ⟨cell_dr b0, cell_dr b1, cell_dr cz, cell_dr c0⟩ (fun hHeld => ?_)
                clear hK K
                try simp only [Act.put, List.setIfInBounds_toArray, List.set_cons_zero, List.set_cons_succ]
                refine readyG (rs := [6]) (by kernel_rfl) (by simp) ?_
                refine AllG.cons rfl (fun K hK => ?_) AllG.nil
                go_simp
                refine (HR _ (hS3.oldII hv)).out.mono ?_
                rintro e w5 ⟨vr, rfl, h5⟩
                have hS5 := hS3.call h5
                have e0 := hS5.bcell 1 rfl 0 rfl
                have e1 := hS5.bcell 1 rfl 1 rfl
                have ez := (hS5.oldII hv).cell 0 h2
                have ec := (hS5.rdI 2 rfl).cell 0 hC0
                have xr0 := (h5.rdI 0 rfl).ixe 0 0 rfl (by rw [repL_len]; omega)
                have cr0 := (h5.rdI 0 rfl).cell 0 (by rw [repL_len]; omega)
                have rz := Lib.hid ((hS5.oldII hv).row 0 h2)
                have hS6 := Lib.hid hS5
                refine hK.out _ _ ⟨e0, e1, ez, ec⟩ (fun hHeld => ?_)
                clear hK K h5 hS3 hS b0 b1 cz c0
                try simp only [Act.put, List.setIfInBounds_toArray, List.set_cons_zero, List.set_cons_succ]
                refine takeP (i := 7) (v := ?_) rfl (by kernel_rfl) (fun _ _ _ h => h) (by rfl) ?_ (by assumption) ?_
                case refine_2 => (intro w'; go_simp; first | done | with_reducible rfl)
                try simp only [Act.put, List.setIfInBounds_toArray, List.set_cons_zero, List.set_cons_succ]
                refine readyG (rs := [8, 13]) (by kernel_rfl) (by simp) ?_
                refine AllG.cons rfl (fun K hK => ?_) (AllG.cons rfl (fun K hK => ?_) AllG.nil)
                · go_simp
                  refine hK.out _ _ ⟨e0, e1, ez, ec⟩ (fun hHeld => ?_)
                  clear hK K
                  try simp only [Act.put, List.setIfInBounds_toArray, List.set_cons_zero, List.set_cons_succ]
                  refine readyG (rs := [13]) (by kernel_rfl) (by simp) ?_
                  refine AllG.cons rfl (fun K hK => ?_) AllG.nil
                  go_simp
                  refine (size_c _ _ _ rz.out).mono ?_
                  rintro e w6 ⟨rfl, rfl⟩
                  refine hK.out _ _ ⟨e0, e1, ez, ec⟩ (fun hHeld => ?_)
                  clear hK K
                  try simp only [Act.put, List.setIfInBounds_toArray, List.set_cons_zero, List.set_cons_succ]
                  have t0 := hS5.bcell 0 rfl 0 rfl
                  have t1 := hS5.bcell 0 rfl 1 rfl
                  have t2 := hS5.bcell 0 rfl 2 rfl
                  have t3 := hS5.bcell 0 rfl 3 rfl
                  have t4 := hS5.bcell 0 rfl 4 rfl
                  have f0 := hS5.bfree 0 rfl
                  refine takeP (i := 17) (v := ?_) rfl (by kernel_rfl) (fun _ _ _ h => h) (by rfl) ?_ (by assumption) ?_
                  case refine_2 => (intro w'; go_simp; first | done | with_reducible rfl)
                  try simp only [Act.put, List.setIfInBounds_toArray, List.set_cons_zero, List.set_cons_succ]
                  refine readyG (rs := [18]) (by kernel_rfl) (by simp) ?_
                  refine AllG.last rfl (by kernel_rfl) (fun K hK => ?_) AllG.nil
                  go_simp
                  refine hK.out _ _ ?_
                  clear hK K
                  try simp only [Act.put, List.setIfInBounds_toArray, List.set_cons_zero, List.set_cons_succ]
                  refine readyG (rs := [19]) (by kernel_rfl) (by simp) ?_
                  refine AllG.last rfl (by kernel_rfl) (fun K hK => ?_) AllG.nil
                  go_simp
                  refine hK.out _ _ ?_
                  clear hK K
                  try simp only [Act.put, List.setIfInBounds_toArray, List.set_cons_zero, List.set_cons_succ]
                  refine doneG (by kernel_rfl) ?_ _
                  refine NoPanic.normal ?_
                  have hZ := ((((hS6.out.bstore 0 rfl 0 (.int .i64 P)).bstore 0 rfl 1 (.int .i64 A.length)).bstore 0 rfl 2 (.int .i64 (nth (repL P A) 0))).bstore 0 rfl 3 (.int .i64 (xat A 0).length)).bstore 0 rfl 4 (.int .i64 (nth C 0))
                  have z0 := hZ.bcell 0 rfl 0 rfl
                  have z1 := hZ.bcell 0 rfl 1 rfl
                  have z2 := hZ.bcell 0 rfl 2 rfl
                  have z3 := hZ.bcell 0 rfl 3 rfl
                  have z4 := hZ.bcell 0 rfl 4 rfl
                  clear hS5 t0 t1 t2 t3 t4
                  go_wp2_with fail
                  refine bodyPost_ret (v := .tuple #[.agg #[.int .i64 P, .int .i64 A.length, .int .i64 (nth (repL P A) 0), .int .i64 (xat A 0).length, .int .i64 (nth C 0)], .bool true]) (by simp [results, Tryz.results97, go_sem, z0, z1, z2, z3, z4]) rfl ?_
                  rw [HB.out, HV.out]
                  exact ⟨rfl, hZ.out⟩
                · go_simp
                  refine (size_c _ _ _ rz.out).mono ?_
                  rintro e w6 ⟨rfl, rfl⟩
                  refine hK.out _ _ ⟨e0, e1, ez, ec⟩ (fun hHeld => ?_)
                  clear hK K
                  try simp only [Act.put, List.setIfInBounds_toArray, List.set_cons_zero, List.set_cons_succ]
                  refine readyG (rs := [8]) (by kernel_rfl) (by simp) ?_
                  refine AllG.cons rfl (fun K hK => ?_) AllG.nil
                  go_simp
                  refine hK.out _ _ ⟨e0, e1, ez, ec⟩ (fun hHeld => ?_)
                  clear hK K
                  try simp only [Act.put, List.setIfInBounds_toArray, List.set_cons_zero, List.set_cons_succ]
                  have t0 := hS5.bcell 0 rfl 0 rfl
                  have t1 := hS5.bcell 0 rfl 1 rfl
                  have t2 := hS5.bcell 0 rfl 2 rfl
                  have t3 := hS5.bcell 0 rfl 3 rfl
                  have t4 := hS5.bcell 0 rfl 4 rfl
                  have f0 := hS5.bfree 0 rfl
                  refine takeP (i := 17) (v := ?_) rfl (by kernel_rfl) (fun _ _ _ h => h) (by rfl) ?_ (by assumption) ?_
                  case refine_2 => (intro w'; go_simp; first | done | with_reducible rfl)
                  try simp only [Act.put, List.setIfInBounds_toArray, List.set_cons_zero, List.set_cons_succ]
                  refine readyG (rs := [18]) (by kernel_rfl) (by simp) ?_
                  refine AllG.last rfl (by kernel_rfl) (fun K hK => ?_) AllG.nil
                  go_simp
                  refine hK.out _ _ ?_
                  clear hK K
                  try simp only [Act.put, List.setIfInBounds_toArray, List.set_cons_zero, List.set_cons_succ]
                  refine readyG (rs := [19]) (by kernel_rfl) (by simp) ?_
                  refine AllG.last rfl (by kernel_rfl) (fun K hK => ?_) AllG.nil
                  go_simp
                  refine hK.out _ _ ?_
                  clear hK K
                  try simp only [Act.put, List.setIfInBounds_toArray, List.set_cons_zero, List.set_cons_succ]
                  refine doneG (by kernel_rfl) ?_ _
                  refine NoPanic.normal ?_
                  have hZ := ((((hS6.out.bstore 0 rfl 0 (.int .i64 P)).bstore 0 rfl 1 (.int .i64 A.length)).bstore 0 rfl 2 (.int .i64 (nth (repL P A) 0))).bstore 0 rfl 3 (.int .i64 (xat A 0).length)).bstore 0 rfl 4 (.int .i64 (nth C 0))
                  have z0 := hZ.bcell 0 rfl 0 rfl
                  have z1 := hZ.bcell 0 rfl 1 rfl
                  have z2 := hZ.bcell 0 rfl 2 rfl
                  have z3 := hZ.bcell 0 rfl 3 rfl
                  have z4 := hZ.bcell 0 rfl 4 rfl
                  clear hS5 t0 t1 t2 t3 t4
                  go_wp2_with fail
                  refine bodyPost_ret (v := .tuple #[.agg #[.int .i64 P, .int .i64 A.length, .int .i64 (nth (repL P A) 0), .int .i64 (xat A 0).length, .int .i64 (nth C 0)], .bool true]) (by simp [results, Tryz.results97, go_sem, z0, z1, z2, z3, z4]) rfl ?_
                  rw [HB.out, HV.out]
                  exact ⟨rfl, hZ.out⟩
      · have H := Lib.hid (prm_no1 (P := P) (A := A) (fun h => h3 h.2.2))
        go_enter Tryz.func97, Tryz.ntmps97
        go_wp2_with fail
        refine bodyPost_ret (v := .tuple #[.agg #[.int .i64 0, .int .i64 0, .int .i64 0, .int .i64 0, .int .i64 0], .bool false]) (by simp [results, Tryz.results97, go_sem, r0, r1, r2, r3, r4]) rfl ?_
        exact MakesPr.no H.out hS1
    · have H := Lib.hid (prm_no1 (P := P) (A := A) (fun h => h2 h.2.1))
      have f := eq_t (show (A.length : Int) = 0 by omega)
      have h1' : ¬ (P : Int) < 2 := by omega
      have H0 := Lib.hid (show A.length = 0 by omega)
      clear h2
      go_enter Tryz.func97, Tryz.ntmps97
      go_wp2_with fail
      refine bodyPost_ret (v := .tuple #[.agg #[.int .i64 0, .int .i64 0, .int .i64 0, .int .i64 0, .int .i64 0], .bool false]) (by simp [results, Tryz.results97, go_sem, r0, r1, r2, r3, r4]) rfl ?_
      first
      | exact MakesPr.no H.out hS1
      | (rw [H0.out] at hS1; exact MakesPr.no H.out hS1)
  · have H := Lib.hid (prm_no1 (P := P) (A := A) (fun h => h1 h.1))
    have h1' : (P : Int) < 2 := by omega
    go_enter Tryz.func97, Tryz.ntmps97
    go_wp2_with fail
    refine bodyPost_ret (v := .tuple #[.agg #[.int .i64 0, .int .i64 0, .int .i64 0, .int .i64 0, .int .i64 0], .bool false]) (by simp [results, Tryz.results97, go_sem, r0, r1, r2, r3, r4]) rfl ?_
    exact MakesPr.no H.out hS1
end Go.Proofs.YtegmjlblehjccaaGreat
end

section
/- Walks: ParametersOf of the program; replications, pairs and parameters of the reference. -/
namespace Go.Proofs.YtegmjlblehjccaaGreat
set_option linter.unusedSimpArgs false
set_option linter.unusedVariables false
open Go.RowKit
attribute [local go_sem ↓] Go.wp_at_zero Go.wp_at_succ
def z5 (g : Nat) : Ent := box 114 g [.int .i64 0, .int .i64 0, .int .i64 0, .int .i64 0, .int .i64 0]
theorem St.five {B : Nat} {w0 w : World} {L : List Ent} {g : Nat} {us : List Value} (h : St B w0 w (box 114 g us :: L)) (hl : us.length = 5) (a b c d e : Value) :
    St B w0 (((((w.setCell ⟨g, 0, none⟩ a).setCell ⟨g, 1, none⟩ b).setCell ⟨g, 2, none⟩ c).setCell ⟨g, 3, none⟩ d).setCell ⟨g, 4, none⟩ e) (box 114 g [a, b, c, d, e] :: L) := by
  match us, hl with
  | [u0, u1, u2, u3, u4], _ => exact ((((h.bstore 0 rfl 0 a).bstore 0 rfl 1 b).bstore 0 rfl 2 c).bstore 0 rfl 3 d).bstore 0 rfl 4 e
set_option maxHeartbeats 2000000 in
set_option maxRecDepth 100000 in
theorem l10Replications_c (P : Nat) (g : Nat) (v : Value) (us : List Value) (A : List (List Int)) (w : World) (hv : RII w v us A) (hb : BoxD w g P v) (hD : DOk P A) :
    Calls Tryz.prog 167 #[.pointer (some ⟨g, 0, none⟩)] w (MakesI w (repL P A)) := by
  have hP := hD.le
  have hDl := hD.len
  have HD := Lib.hid hD
  clear hD
  have hln := hv.len
  have hixe := hv.ixe
  obtain ⟨b0, b1⟩ := id hb
  go_enter Tryz.func167, Tryz.ntmps167
  go_wp2_with (at_make; refine mkI (St.refl w) rfl _ _ rfl _ _ P (by go_num) (by go_num) (by omega) ?_; intro vc w3 hS3; rw [List.nil_append] at hS3; have hb3 := hS3.oldBoxD hb; have b1' := hb3.2)
  have hxc := (hS3.rdI 0 rfl).ixe
  rw [← repS_0 P A] at hS3 hxc
  rw [repS_len] at hxc
  go_loopw [4, 5] (fun i _ wr => ∃ k : Nat, k ≤ A.length ∧ i = .int .i64 k ∧ St w.heap.size w wr [row 2 vc (iv (repS P A k 0))]) (fun i _ _ => A.length - (intOf i).toNat)
  case atStart => exact ⟨0, by omega, rfl, hS3⟩
  case round =>
    clear hS3 b0 b1 b1' hb3
    obtain ⟨k, hk, rfl, hS⟩ := hrel
    have b1 := (hS.oldBoxD hb).2
    by_cases hlt : k < A.length
    · have HI := Lib.hid (HD.out.inc' hlt)
      have hl32 := HI.out.len
      have Hnx := Lib.hid (repS_next (P := P) hlt)
      go_wp2_with fail
      obtain ⟨wo, rfl⟩ : ∃ wo : World, wo = wr := ⟨_, rfl⟩
      go_loopw [5] (fun i wr => ∃ j : Nat, j ≤ (xat A k).length ∧ i = .int .i64 j ∧ St w.heap.size w wr [row 2 vc (iv (repS P A k j))]) (fun i _ => (xat A k).length - (intOf i).toNat)
      case atStart => exact ⟨0, by omega, rfl, hS⟩
      case round =>
        clear hS b1
        obtain ⟨j, hj, rfl, hS⟩ := hrel
        have b1 := (hS.oldBoxD hb).2
        have hrk := (hS.oldII hv).row k hlt
        have hc := (hS.oldII hv).cell k hlt
        have xk := hixe (k : Int) k rfl hlt
        have hlk := hrk.len
        by_cases hjt : j < (xat A k).length
        · have cb := hrk.cell j hjt
          have xj := hrk.ixe (j : Int) j rfl hjt
          obtain ⟨x, hx, hxP⟩ := HI.out.nat hjt
          rw [hx] at cb
          have Hst := Lib.hid (repS_step HI.out hjt hx hxP)
          have cx := (hS.rdI 0 rfl).cell x (by rw [repS_len]; exact hxP)
          have ux := hS.unfrozen 0 rfl (j := x) (by rw [iv_len, repS_len]; exact hxP)
          have xx := hxc (x : Int) x rfl hxP
          have hbd := repS_bd (P := P) (j := j) hlt hDl hxP
          have HS9 := Lib.hid (hS.store 0 rfl (j := x) (by rw [iv_len, repS_len]; exact hxP) (.int .i64 (nth (repS P A k j) x + 1)))
          generalize hq : nth (repS P A k j) x = q at *
          clear hq hx hrk
          go_wp2_with fail
          have hS9 := HS9.out
          simp only [List.set_cons_zero] at hS9
          rw [iv_set, Hst.out] at hS9
          go_roundw
          case rel => exact ⟨j + 1, by omega, by go_num, hS9⟩
          case measure => simp [intOf]; omega
        · obtain rfl : j = (xat A k).length := by omega
          rw [Hnx.out] at hS
          clear hrk
          go_wp2_with fail
          go_roundw
          case rel => exact ⟨k + 1, by omega, by go_num, hS⟩
          case measure => simp [intOf]; omega
    · obtain rfl : k = A.length := by omega
      rw [repS_end] at hS
      go_wp2_with fail
      go_ret
      exact ⟨vc, rfl, hS⟩
end Go.Proofs.YtegmjlblehjccaaGreat
end

section
/- Plain: sums of the numbers of points and pairs; images of designs. -/
namespace Go.Proofs.YtegmjlblehjccaaGreat
set_option linter.unusedSimpArgs false
set_option linter.unusedVariables false

theorem sumL_cat : ∀ a b : List Int, sumL (a ++ b) = sumL a + sumL b
  | [], b => by simp [sumL]
  | x :: r, b => by rw [List.cons_append, sumL, sumL, sumL_cat r b]; omega
theorem sumL_add {α : Type} (f g : α → Int) : ∀ l : List α, sumL (l.map fun x => f x + g x) = sumL (l.map f) + sumL (l.map g)
  | [] => rfl
  | x :: r => by simp only [List.map_cons, sumL]; rw [sumL_add f g r]; omega
theorem sumL_zero {α : Type} : ∀ l : List α, sumL (l.map fun _ => (0 : Int)) = 0
  | [] => rfl
  | x :: r => by simp only [List.map_cons, sumL]; rw [sumL_zero r]; omega
theorem sumL_flat : ∀ l : List (List Int), sumL l.flatten = sumL (l.map sumL)
  | [] => rfl
  | x :: r => by rw [List.flatten_cons, sumL_cat, List.map_cons, sumL, sumL_flat r]
def twos (A : List (List Int)) : List Int := A.map fun b => (b.length : Int) * (b.length - 1) / 2
def indP (b : List Int) (x : Nat) : Int := if (x : Int) ∈ b then 1 else 0
theorem blw_ind {b : List Int} (hp : b.Pairwise (· < ·)) (x : Nat) : ((blw b (x + 1)).length : Int) = (blw b x).length + indP b x := by
  rw [blw_step hp, List.length_append]
  unfold indP
  split <;> simp
def ind2 (b : List Int) (x y : Nat) : Int := if (x : Int) ∈ b ∧ (y : Int) ∈ b then 1 else 0
theorem parF_cons (b : List Int) (A : List (List Int)) (x y : Nat) : parF (b :: A) x y = ind2 b x y + parF A x y := by
  unfold parF cntD ind2
  by_cases h : (x : Int) ∈ b ∧ (y : Int) ∈ b
  · rw [List.filter_cons_of_pos (by simpa using h), if_pos h]; simp; omega
  · rw [List.filter_cons_of_neg (by simpa using h), if_neg h]; simp
theorem ind2_row {P : Nat} {b : List Int} (h : Inc P b) (x : Nat) : ∀ n, sumL ((List.range n).map fun t => ind2 b x (x + 1 + t)) = indP b x * ((blw b (x + 1 + n)).length - (blw b (x + 1)).length)
  | 0 => by simp [sumL]
  | n + 1 => by
    rw [List.range_succ, List.map_append, sumL_cat, ind2_row h x n]
    have := blw_ind (incB_pw2 h) (x + 1 + n)
    rw [show x + 1 + (n + 1) = x + 1 + n + 1 by omega, this]
    simp only [List.map_cons, List.map_nil, sumL]
    have e2 : ind2 b x (x + 1 + n) = indP b x * indP b (x + 1 + n) := by
      unfold ind2 indP
      by_cases h1 : (x : Int) ∈ b
      · by_cases h2 : ((x + 1 + n : Nat) : Int) ∈ b
        · rw [if_pos (And.intro h1 h2), if_pos h1, if_pos h2]; rfl
        · rw [if_neg (fun h' : _ ∧ _ => h2 h'.2), if_pos h1, if_neg h2]; rfl
      · rw [if_neg (fun h' : _ ∧ _ => h1 h'.1), if_neg h1]; simp
    rw [e2]; grind
theorem ind2_sum {P : Nat} {b : List Int} (h : Inc P b) : ∀ y, y ≤ P → 2 * sumL ((List.range y).map fun x => indP b x * ((b.length : Int) - (blw b (x + 1)).length)) = 2 * (blw b y).length * b.length - (blw b y).length * ((blw b y).length + 1)
  | 0, _ => by rw [blw_0 h]; simp [sumL]
  | y + 1, hy => by
    rw [List.range_succ, List.map_append, sumL_cat, Int.mul_add, ind2_sum h y (by omega)]
    have := blw_ind (incB_pw2 h) y
    simp only [List.map_cons, List.map_nil, sumL]
    rw [this]
    generalize ((blw b y).length : Int) = c
    generalize (b.length : Int) = k
    unfold indP
    by_cases h1 : (y : Int) ∈ b
    · rw [if_pos h1]; grind
    · rw [if_neg h1]; grind
theorem par_block {P : Nat} {b : List Int} (h : Inc P b) : sumL ((List.range P).map fun x => sumL ((List.range (P - (x + 1))).map fun t => ind2 b x (x + 1 + t))) = (b.length : Int) * (b.length - 1) / 2 := by
  have e : ((List.range P).map fun x => sumL ((List.range (P - (x + 1))).map fun t => ind2 b x (x + 1 + t))) = (List.range P).map fun x => indP b x * ((b.length : Int) - (blw b (x + 1)).length) := by
    refine List.map_congr_left fun x hx => ?_
    have hx := List.mem_range.1 hx
    rw [ind2_row h, show x + 1 + (P - (x + 1)) = P by omega, blw_all h]
  rw [e]
  have := ind2_sum h P (Nat.le_refl _)
  rw [blw_all h] at this
  generalize sumL ((List.range P).map fun x => indP b x * ((b.length : Int) - (blw b (x + 1)).length)) = S at *
  generalize (b.length : Int) = k at *
  have h2 : k * (k - 1) = 2 * S := by rw [this]; grind
  rw [h2]; omega
theorem par_sum {P : Nat} : ∀ {A : List (List Int)}, (∀ b ∈ A, Inc P b) → sumL (parL P A) = sumL (twos A)
  | [], _ => by
    unfold parL
    rw [sumL_flat, List.map_map, show (List.range P).map (sumL ∘ parR P []) = (List.range P).map fun _ => (0 : Int) from List.map_congr_left fun x _ => by
      show sumL ((List.range (P - (x + 1))).map fun t => parF [] x (x + 1 + t)) = 0
      rw [show ((List.range (P - (x + 1))).map fun t => parF [] x (x + 1 + t)) = (List.range (P - (x + 1))).map fun _ => (0 : Int) from List.map_congr_left fun t _ => rfl, sumL_zero], sumL_zero]; rfl
  | b :: A, h => by
    have ih := par_sum (A := A) fun c hc => h c (List.mem_cons_of_mem _ hc)
    have hb := h b List.mem_cons_self
    unfold parL at ih ⊢
    rw [sumL_flat, List.map_map] at ih ⊢
    rw [show (List.range P).map (sumL ∘ parR P (b :: A)) = (List.range P).map fun x => sumL ((List.range (P - (x + 1))).map fun t => ind2 b x (x + 1 + t)) + (sumL ∘ parR P A) x from List.map_congr_left fun x _ => by
      show sumL ((List.range (P - (x + 1))).map fun t => parF (b :: A) x (x + 1 + t)) = _ + sumL ((List.range (P - (x + 1))).map fun t => parF A x (x + 1 + t))
      rw [← sumL_add]
      congr 1
      exact List.map_congr_left fun t _ => parF_cons b A x (x + 1 + t), sumL_add, ih, par_block hb]
    rfl
end Go.Proofs.YtegmjlblehjccaaGreat
end

section
/- Plain: images of balanced designs have the same parameters. -/
namespace Go.Proofs.YtegmjlblehjccaaGreat
set_option linter.unusedSimpArgs false
set_option linter.unusedVariables false

theorem putL_mem : ∀ (xs : List Int) (n y : Int), y ∈ putL xs n ↔ y = n ∨ y ∈ xs
  | [], n, y => by simp [putL]
  | x :: r, n, y => by
    rw [putL]
    split
    · simp
    · split
      · rename_i h; subst h
        simp only [List.mem_cons]
        constructor
        · exact .inr
        · rintro (e | e)
          · exact .inl e
          · exact e
      · simp only [List.mem_cons, putL_mem r n y]
        constructor
        · rintro (e | e | e)
          · exact .inr (.inl e)
          · exact .inl e
          · exact .inr (.inr e)
        · rintro (e | e | e)
          · exact .inr (.inl e)
          · exact .inl e
          · exact .inr (.inr e)
theorem imgS_mem (p ss : List Int) (y : Int) : ∀ k, y ∈ imgS p ss k ↔ ∃ j, j < k ∧ nth p (nth ss j).toNat = y
  | 0 => by simp [imgS]
  | k + 1 => by
    rw [imgS, putL_mem, imgS_mem p ss y k]
    constructor
    · rintro (e | ⟨j, hj, e⟩)
      · exact ⟨k, by omega, e.symm⟩
      · exact ⟨j, by omega, e⟩
    · rintro ⟨j, hj, e⟩
      by_cases h : j = k
      · subst h; exact .inl e.symm
      · exact .inr ⟨j, by omega, e⟩
theorem IsP.onto2 {xs : List Int} (h : IsP xs) {v : Nat} (hv : v < xs.length) : ∃ j, j < xs.length ∧ nth xs j = v := by
  have : (v : Int) ∈ xs := h.perm.mem_iff.2 (by simp only [iot, List.mem_map, List.mem_range]; exact ⟨v, hv, rfl⟩)
  obtain ⟨j, hj, e⟩ := List.getElem_of_mem this
  exact ⟨j, hj, by rw [nth_eq hj]; exact e⟩
section
variable {p : List Int} {P : Nat} {b : List Int}
theorem imgB_at (hp : IsP p) (hl : p.length = P) (h : Inc P b) {j : Nat} (hj : j < b.length) : ∃ x : Nat, nth b j = x ∧ x < P ∧ 0 ≤ nth p x ∧ nth p x < P := by
  obtain ⟨x, hx, hxP⟩ := h.nat hj
  have := hp.lt x (by omega)
  exact ⟨x, hx, hxP, this.1, by rw [hl] at this; exact this.2⟩
theorem imgB_inc (hp : IsP p) (hl : p.length = P) (h : Inc P b) : incB (-1) P (imgB p b) = true := by
  have : ∀ k, k ≤ b.length → incB (-1) P (imgS p b k) = true := by
    intro k
    induction k with
    | zero => intro _; rfl
    | succ k ih =>
      intro hk
      obtain ⟨x, hx, hxP, h1, h2⟩ := imgB_at hp hl h (show k < b.length by omega)
      rw [imgS, hx, Int.toNat_natCast]
      exact putL_inc (ih (by omega)) (by omega) h2
  exact this _ (Nat.le_refl _)
theorem imgB_mem (hp : IsP p) (hl : p.length = P) (h : Inc P b) {x : Nat} (hx : x < P) : nth p x ∈ imgB p b ↔ (x : Int) ∈ b := by
  unfold imgB
  rw [imgS_mem]
  constructor
  · rintro ⟨j, hj, e⟩
    obtain ⟨y, hy, hyP, _, _⟩ := imgB_at hp hl h hj
    rw [hy, Int.toNat_natCast] at e
    have := hp.inj y x (by omega) (by omega) e
    subst this
    rw [← hy]; exact nth_mem hj
  · intro hm
    obtain ⟨j, hj, e⟩ := List.getElem_of_mem hm
    exact ⟨j, hj, by rw [nth_eq hj, e, Int.toNat_natCast]⟩
theorem imgB_len (hp : IsP p) (hl : p.length = P) (h : Inc P b) : (imgB p b).length = b.length := by
  have hn1 : (imgB p b).Nodup := pw_nodup (incB_pw (imgB_inc hp hl h))
  have hn2 : (b.map fun y => nth p y.toNat).Nodup := by
    rw [List.nodup_iff_pairwise_ne, List.pairwise_map, List.pairwise_iff_getElem]
    intro i j hi hj hij e
    obtain ⟨x, hx, hxP, _, _⟩ := imgB_at hp hl h hi
    obtain ⟨y, hy, hyP, _, _⟩ := imgB_at hp hl h hj
    rw [← nth_eq hi, ← nth_eq hj, hx, hy, Int.toNat_natCast, Int.toNat_natCast] at e
    have := hp.inj x y (by omega) (by omega) e
    have := h.lt i j hij hj
    omega
  have hperm : (imgB p b).Perm (b.map fun y => nth p y.toNat) := by
    rw [List.perm_ext_iff_of_nodup hn1 hn2]
    intro y
    unfold imgB
    rw [imgS_mem, List.mem_map]
    constructor
    · rintro ⟨j, hj, e⟩; exact ⟨nth b j, nth_mem hj, e⟩
    · rintro ⟨z, hz, e⟩
      obtain ⟨j, hj, rfl⟩ := List.getElem_of_mem hz
      exact ⟨j, hj, by rw [nth_eq hj]; exact e⟩
  rw [hperm.length_eq, List.length_map]
end
theorem cntD_map {p q : List Int → Bool} {f : List Int → List Int} : ∀ {A : List (List Int)}, (∀ b ∈ A, q (f b) = p b) → cntD q (A.map f) = cntD p A
  | [], _ => rfl
  | b :: A, h => by
    have ih := cntD_map (p := p) (q := q) (f := f) (A := A) fun c hc => h c (List.mem_cons_of_mem _ hc)
    have hb := h b List.mem_cons_self
    unfold cntD at ih ⊢
    rw [List.map_cons]
    cases hp : p b
    · rw [List.filter_cons_of_neg (by rw [hb, hp]; decide), List.filter_cons_of_neg (by rw [hp]; decide)]; exact ih
    · rw [List.filter_cons_of_pos (by rw [hb, hp]), List.filter_cons_of_pos hp]
      simp only [List.length_cons]; push_cast; omega
section
variable {p : List Int} {P : Nat} {A : List (List Int)}
theorem img_par (hp : IsP p) (hl : p.length = P) (hA : ∀ b ∈ A, Inc P b) {x y x' y' : Nat} (hx : x < P) (hy : y < P) (e : nth p x = x') (e' : nth p y = y') : parF (srtL (imgL p A)) x' y' = parF A x y := by
  unfold parF
  rw [cntD_perm (srtL_perm _)]
  exact cntD_map fun b hb => by
    rw [← e, ← e', decide_eq_decide.2 (imgB_mem hp hl (hA b hb) hx), decide_eq_decide.2 (imgB_mem hp hl (hA b hb) hy)]
theorem parF_symm (A : List (List Int)) (x y : Nat) : parF A x y = parF A y x := by
  unfold parF; congr 1; funext b; rw [Bool.and_comm]
theorem parL_mem {P : Nat} {A : List (List Int)} {c : Int} : c ∈ parL P A ↔ ∃ x y, x < y ∧ y < P ∧ c = parF A x y := by
  unfold parL
  simp only [List.mem_flatten, List.mem_map, List.mem_range]
  constructor
  · rintro ⟨l, ⟨x, hx, rfl⟩, hc⟩
    unfold parR at hc
    simp only [List.mem_map, List.mem_range] at hc
    obtain ⟨t, ht, rfl⟩ := hc
    exact ⟨x, x + 1 + t, by omega, by omega, rfl⟩
  · rintro ⟨x, y, hxy, hy, rfl⟩
    refine ⟨parR P A x, ⟨x, by omega, rfl⟩, ?_⟩
    unfold parR
    simp only [List.mem_map, List.mem_range]
    exact ⟨y - (x + 1), by omega, by rw [show x + 1 + (y - (x + 1)) = y by omega]⟩
end
end Go.Proofs.YtegmjlblehjccaaGreat
end
