/- The texts of this claim, run 8: Fm3 DsD PPut PKn Put Kn PCp DsE DsG Ml3 SqG Ar1. -/
import Derived.Test.YtljemlfocajhnaaGreatK1
import Derived.Test.YtljemlfocajhnaaGreatK3
import Derived.Test.YtljemlfocajhnaaGreatK4
import Derived.Test.YtljemlfocajhnaaGreatK5
import Derived.Test.YtljemlfocajhnaaGreatK6
import Derived.Test.YtljemlfocajhnaaGreatK7

section
/- Walks: the squares of a field. Walks: all squares of a field; products of squares. Walks: products of lists of orthogonal squares; orders that are drawn. -/
namespace Go.Proofs.YtljemlfocajhnaaGreat
set_option linter.unusedSimpArgs false
set_option linter.unusedVariables false
open Go.RowKit
attribute [local go_sem ↓] Go.wp_at_zero Go.wp_at_succ


/-- what the field of n elements is -/
structure FQ (n : Nat) (p : Int) (D : Nat) (fs : List Int) : Prop where
  fv : FV p D fs
  pow : p ^ D = (n : Int)
  n2 : 2 ≤ n
  n10 : n ≤ 10
theorem mk_fq {q : Int} (h : mkOk q = true) (h10 : q ≤ 10) : ∃ (n : Nat) (p : Int) (D : Nat) (fs : List Int), q = n ∧ FQ n p D fs ∧ mkfP q = p ∧ mkfD q = D ∧ mkfL q = fs ∧ mkfC q = 0 := by
  obtain ⟨n, rfl, h2, h64, hm⟩ := mkOk_t h
  refine ⟨n, ((spl n).1 : Nat), (spl n).2, mkF n, rfl, ⟨hm.fv h64, ?_, h2, by omega⟩, ?_⟩
  · rw [← Int.natCast_pow, hm.pw]
  · simp [mkfP, mkfD, mkfL, mkfC, h]
/-- squares and a code -/
def IIIK (w : World) (X : List (List (List Int))) (c : Int) (e : Ending) (w' : World) : Prop := ∃ v vs uss, e = .returned (.tuple #[v, .int .i64 c]) ∧ Fit3 vs uss X ∧ St w.heap.size w w' (own3 v vs uss X)
theorem fitE : Fit3 [] [] [] := ⟨rfl, rfl, fun k h => by simp at h⟩
theorem IIIK.no {w w' : World} {L : List Ent} {c : Int} (h : St w.heap.size w w' L) : IIIK w [] c (.returned (.tuple #[.slice none 0 0, .int .i64 c])) w' := ⟨_, [], [], rfl, fitE, h.out.newnil _⟩
theorem IIIK.riii {w w' : World} {v : Value} {vs : List Value} {uss : List (List Value)} {X : List (List (List Int))} (hf : Fit3 vs uss X) (h : St w.heap.size w w' (own3 v vs uss X)) : RIII w' v vs uss X := St.riii (L2 := []) (by rw [List.append_nil]; exact h) hf
section
variable {ops : Array Oper} {o : Oper} {a : Act} {K : Act → World → Prop} {Q : Exit → Act → World → Prop} {E : Prop} {B : Nat} {w0 w : World} {L : List Ent}
end
end Go.Proofs.YtljemlfocajhnaaGreat
end

section
/- Walks: the reference's sorting of blocks. -/
namespace Go.Proofs.YtljemlfocajhnaaGreat
set_option linter.unusedSimpArgs false
set_option linter.unusedVariables false
open Go.RowKit
attribute [local go_sem ↓] Go.wp_at_zero Go.wp_at_succ

section
variable {a : Act} {w : World} {Q : Exit → Act → World → Prop} {ops : Array Oper} {rest : List Oper} {o : Oper} {B : Nat} {w0 : World} {L : List Ent}
/-- append of the slices of a slice to an owned row of slices -/
theorem appsII2 (hS : St B w0 w L) (i : Nat) {v : Value} {us : List Value} (hi : L[i]? = some (row 46 v us)) (vx : Value) (ws : List Value) (hr : Rd w vx ws) (h1 : ∀ u ∈ ws, u.oneCell' = true) (hN : us.length + ws.length ≤ 4294967296) (hg : o.guard = none) (s x : Operand)
    (hop : o.op = .call { callee := .builtin .append, args := #[s, x], argTypes := #[24, 24] }) (hs : a.eval s = v) (hx : a.eval x = vx)
    (hK : ∀ v' w', St B w0 w' (L.set i (row 46 v' (us ++ ws))) → wpList Tryz.prog ops Q rest (a.put o.dst v') w') :
    wpList Tryz.prog ops Q (o :: rest) a w :=
  wpList_st_apps hg s x 24 hop 46 (.slice none 0 0) 24 Tryz.und_iss Tryz.info_is rfl hS i hi hs vx hx ws hr h1 (by omega) hN hK
end
theorem rslII_lo2 {w : World} {v : Value} {us : List Value} (h : Rd w v us) (lo : Nat) (h2 : lo ≤ us.length) (W : World) :
    (Instr.slice 24 v (some (.int .i64 (lo : Int))) none none).run Tryz.prog W = .ok (rsl v lo us.length) W := by
  obtain ⟨⟨a, cap, rfl, hc1, hc2, ha⟩, hcell⟩ := h
  rw [run_slice_l W 24 a _ cap und_elem_iis .i64 lo (by omega) (by omega), run_size_elemII]
  rfl
theorem ins_srt {A S : List (List Int)} {k m : Nat} (hk : k < A.length) (hm : m ≤ S.length) (hS : S = srtL (A.take k) ∧ (∀ j, j < m → leL (xat S j) (xat A k) = true)) (h2 : ∀ j, m ≤ j → j < S.length → leL (xat A k) (xat S j) = true) :
    S.take m ++ [xat A k] ++ S.drop m = srtL (A.take (k + 1)) := by
  obtain ⟨hS, h1⟩ := hS
  refine srtL_eq ?_ ?_
  · have p1 : (S.take m ++ [xat A k] ++ S.drop m).Perm (xat A k :: S) := by
      have : (S.take m ++ [xat A k] ++ S.drop m).Perm (xat A k :: (S.take m ++ S.drop m)) := by
        rw [List.append_assoc]; exact List.perm_middle
      rwa [List.take_append_drop] at this
    refine p1.trans ?_
    rw [take_xat hk, hS]
    exact ((srtL_perm _).cons _).trans (List.perm_append_comm (l₁ := [xat A k]))
  · have hpw : S.Pairwise fun a b => leL a b = true := by rw [hS]; exact srtL_pw _
    have hcut : (S.take m ++ S.drop m).Pairwise fun a b => leL a b = true := by rw [List.take_append_drop]; exact hpw
    obtain ⟨c1, c2, c3⟩ := List.pairwise_append.1 hcut
    have m1 : ∀ x ∈ S.take m, leL x (xat A k) = true := fun x hx => by
      obtain ⟨j, hj, rfl⟩ := List.getElem_of_mem hx
      have hjm : j < m := by simp at hj; omega
      rw [List.getElem_take, ← xat_eq]; exact h1 j hjm
    have m2 : ∀ x ∈ S.drop m, leL (xat A k) x = true := fun x hx => by
      obtain ⟨j, hj, rfl⟩ := List.getElem_of_mem hx
      have hjm : m + j < S.length := by simp at hj; omega
      rw [List.getElem_drop, ← xat_eq hjm]; exact h2 (m + j) (by omega) hjm
    rw [List.append_assoc]
    refine List.pairwise_append.2 ⟨c1, List.pairwise_cons.2 ⟨m2, c2⟩, fun x hx y hy => ?_⟩
    rcases List.mem_append.1 hy with hy | hy
    · obtain rfl := List.mem_singleton.1 hy; exact m1 x hx
    · exact c3 x hx y hy
theorem rows_ins {us : List Value} {S : List (List Int)} (hl : us.length = S.length) {m : Nat} (hm : m ≤ S.length) (u : Value) (b : List Int) :
    (rowsI us S ++ [row 2 u (iv b)]).Perm (rowsI (us.take m ++ [u] ++ us.drop m) (S.take m ++ [b] ++ S.drop m)) := by
  have e1 : rowsI us S = rowsI (us.take m) (S.take m) ++ rowsI (us.drop m) (S.drop m) := by
    unfold rowsI
    rw [← List.zipWith_append (by simp [hl]), List.take_append_drop, List.take_append_drop]
  have e2 : rowsI (us.take m ++ [u] ++ us.drop m) (S.take m ++ [b] ++ S.drop m) = rowsI (us.take m) (S.take m) ++ [row 2 u (iv b)] ++ rowsI (us.drop m) (S.drop m) := by
    unfold rowsI
    rw [List.zipWith_append (by simp [hl]), List.zipWith_append (by simp [hl])]; rfl
  rw [e1, e2, List.append_assoc, List.append_assoc]
  exact (List.perm_append_comm).append_left _
set_option maxHeartbeats 8000000 in
set_option maxRecDepth 100000 in
theorem l10Sort_c (v : Value) (us : List Value) (A : List (List Int)) (w : World) (hv : RII w v us A) (hN : A.length ≤ 1000) (hNr : ∀ xs ∈ A, xs.length ≤ 1048576) :
    Calls Tryz.prog 33 #[v] w (MakesII w (srtL A)) := by
  have hln := hv.len
  have hixe := hv.ixe
  have hNr := Lib.hid hNr
  have hS1 := St.emp0II (w := w)
  go_enter Tryz.func33, Tryz.ntmps33
  go_wp2_with fail
  go_loopw [3, 4, 5, 6] (fun o i _ _ wr => ∃ (k : Nat) (uo : List Value), k ≤ A.length ∧ i = .int .i64 k ∧ Hid (uo.length = (srtL (A.take k)).length) ∧ St w.heap.size w wr (own2 o uo (srtL (A.take k)))) (fun _ i _ _ _ => A.length - (intOf i).toNat)
  case atStart => exact ⟨0, [], by omega, rfl, rfl, hS1⟩
  case round =>
    clear hS1
    obtain ⟨k, uo, hk, rfl, hlo, hS⟩ := hrel
    have hlS : (srtL (A.take k)).length = k := by rw [srtL_len, List.length_take]; omega
    by_cases hlt : k < A.length
    · have hA0 := Lib.hid (show srtL (A.take k) = srtL (A.take k) from rfl)
      have HS0 : ∃ S, S = srtL (A.take k) := ⟨_, rfl⟩
      obtain ⟨S, hSe⟩ := HS0
      rw [← hSe] at hS hlo hlS
      have Hpw := Lib.hid (show S.Pairwise fun a b => leL a b = true by rw [hSe]; exact srtL_pw _)
      have HSe := Lib.hid hSe
      clear hSe hA0
      have hR0 := rii2 (L2 := []) (by rw [List.append_nil]; exact hS) hlo.out
      have hxo := hR0.ixe
      have hlno := hR0.len
      have xk := hixe (k : Int) k rfl hlt
      clear hR0
      go_wp2_with fail
      go_loopw [5] (fun q wr => ∃ m : Nat, m ≤ S.length ∧ q = .int .i64 m ∧ Hid (∀ j, m ≤ j → j < S.length → leL (xat A k) (xat S j) = true) ∧ St w.heap.size w wr (own2 u3 uo S)) (fun q _ => (intOf q).toNat)
      case atStart => exact ⟨S.length, by omega, by rw [hlS], fun j h1 h2 => by omega, hS⟩
      case round =>
        clear hS
        obtain ⟨m, hm, rfl, hI, hS⟩ := hrel
        by_cases hm0 : 0 < m
        · obtain ⟨p, hp⟩ : ∃ p, p + 1 = m := ⟨m - 1, by omega⟩
          have hpl : p < S.length := by omega
          have Rp := Lib.hid fun s : SS w.heap.size w (own2 u3 uo S) => (rii2 (L2 := []) (by rw [List.append_nil]; exact s.st) hlo.out).row p hpl
          have Rk := Lib.hid fun s : SS w.heap.size w (own2 u3 uo S) => (s.st.oldII hv).row k hlt
          have qp := fun s : SS w.heap.size w (own2 u3 uo S) => (rii2 (L2 := []) (by rw [List.append_nil]; exact s.st) hlo.out).cell p hpl
          have qk := fun s : SS w.heap.size w (own2 u3 uo S) => (s.st.oldII hv).cell k hlt
          have xp := hxo ((m : Int) - 1) p (by omega) hpl
          have hw : IntKind.i64.wrap ((m : Int) - 1) = (m : Int) - 1 := IntWalk.i64_in _ (by omega)
          have Hp := Lib.hid hp
          clear hp
          cases hc : leL (xat S p) (xat A k)
          · have hgt : 0 < cmpI (xat S p) (xat A k) := by have := of_decide_eq_false hc; omega
            have Hle := Lib.hid (show leL (xat A k) (xat S p) = true from by
              have := cmpI_neg (xat S p) (xat A k)
              exact decide_eq_true (by omega))
            clear hc
            go_wp2_with fail
            have hne : Nonempty (SS _ _ _) := ⟨⟨_, hS⟩⟩
            refine wp_region_st (by kernel_rfl) (by kernel_rfl) hS ?_
            repeat (go_big_quiet_step ((go_at_call 60; exact st_quiet (sCompareLists_c _ _ _ _ _ (Rp.out _) (Rk.out _)))))
            refine wpQuiet_nil ?_
            rintro _ ⟨s2, rfl⟩
            have hS2 := s2.st
            generalize s2.w = w2 at hS2 ⊢
            go_wp2_with fail
            go_roundw
            case rel => exact ⟨p, by omega, by rw [← Hp.out]; go_num, fun j h1 h2 => by
              by_cases e : j = p
              · rw [e]; exact Hle.out
              · exact hI.out j (by have := Hp.out; omega) h2, hS2⟩
            case measure => have := Hp.out; simp [intOf]; omega
          · have hgt : ¬ 0 < cmpI (xat S p) (xat A k) := by have := of_decide_eq_true hc; omega
            have hA1 : S = srtL (A.take k) ∧ (∀ j, j < m → leL (xat S j) (xat A k) = true) := ⟨HSe.out, fun j hj => by
              by_cases e : j = p
              · rw [e]; exact hc
              · have h3 := List.pairwise_iff_getElem.1 Hpw.out j p (by omega) hpl (by have := Hp.out; omega)
                rw [← xat_eq, ← xat_eq] at h3
                exact leL_trans _ _ _ h3 hc⟩
            have HA1 := Lib.hid hA1
            clear hA1 hc
            go_wp2_with fail
            have hne : Nonempty (SS _ _ _) := ⟨⟨_, hS⟩⟩
            refine wp_region_st (by kernel_rfl) (by kernel_rfl) hS ?_
            repeat (go_big_quiet_step ((go_at_call 60; exact st_quiet (sCompareLists_c _ _ _ _ _ (Rp.out _) (Rk.out _)))))
            refine wpQuiet_nil ?_
            rintro _ ⟨s2, rfl⟩
            have hS2 := s2.st
            generalize s2.w = w2 at hS2 ⊢
            clear hS qp qk Rp Rk
            have hone := Lib.hid (fun u (hu : u ∈ uo) => (show u.oneCell' = true by
              obtain ⟨j, hj, rfl⟩ := List.getElem_of_mem hu
              rw [← vat_eq hj]
              exact ((rii2 (L2 := []) (by rw [List.append_nil]; exact hS2) hlo.out).row j (by rw [← hlo.out]; exact hj)).sl.one))
            have hrd := hS2.rd 0 (e := 46) (v := u3) (us := uo) rfl
            have hsl := rslII_hi hrd m (by rw [hlo.out]; omega)
            have hsl2 := rslII_lo2 hrd m (by rw [hlo.out]; omega)
            rw [hlo.out] at hsl2
            have hrk := Lib.hid ((hS2.oldII hv).row k hlt)
            have hk1 := (hS2.oldII hv).cell k hlt
            have hS3 := (hS2.new 46 #[] (by simp)).perm List.perm_append_comm
            simp only [List.cons_append, List.nil_append] at hS3
            have Hrd := Lib.hid (hS3.rd 1 (e := 46) (v := u3) (us := uo) rfl)
            clear hrd
            go_wp2_with (at_builtin; refine appsII2 hS3 0 rfl _ _ (rsl_Rd Hrd.out (Nat.zero_le m) (by rw [hlo.out]; omega)) (fun u hu => hone.out u (List.mem_of_mem_take (List.mem_of_mem_drop hu))) (by simp [hlo.out]; omega) rfl _ _ rfl rfl rfl ?_; intro v4 w4 hS4; have hk4 := (hS4.oldII hv).cell k hlt)
            have hrk4 := (hS4.oldII hv).row k hlt
            refine (l00Own_c _ _ _ hrk4 (hNr.out _ (xat_mem hlt))).mono ?_
            rintro e w5 ⟨u5, rfl, h5⟩
            obtain ⟨ua, uc, hle⟩ := (h5.rdI 0 rfl).sl.sh
            rw [iv_len] at hle
            subst hle
            have hS5 := hS4.call h5
            simp only [List.set_cons_zero, List.cons_append, List.nil_append, List.drop_zero] at hS5
            have hl5 := Lib.hid (show (uo.take m).length = m by rw [List.length_take, hlo.out]; omega)
            clear hS3 hS4 h5 hrk4 hk4
            have hN5 : (uo.take m).length < 4294967296 := (by rw [hl5.out]; omega)
            have hN5 := Lib.hid hN5
            go_wp2_with (first | (at_builtin; refine appsII2 hS6 0 rfl _ _ hrd6.out hone6.out hN6.out rfl _ _ rfl rfl rfl ?_; intro v7 w7 hS7) | (at_builtin; refine appII hS5 0 rfl hN5.out rfl _ _ rfl rfl _ rfl rfl ?_; intro v6 w6 hS6; simp only [List.set_cons_zero] at hS6; have hrd6 := Lib.hid (rsl_Rd (hS6.rd 1 (e := 46) (v := u3) (us := uo) rfl) (lo := m) (hi := k) (by omega) (by rw [hlo.out]; omega)); have hone6 := Lib.hid (fun u (hu : u ∈ (uo.take k).drop m) => hone.out u (List.mem_of_mem_take (List.mem_of_mem_drop hu))); have hN6 := Lib.hid (show (uo.take m ++ [Value.slice ua (xat A k).length uc]).length + ((uo.take k).drop m).length ≤ 4294967296 by simp only [List.length_append, List.length_drop, List.length_take, List.length_singleton, hlo.out]; omega)))
            simp only [List.set_cons_zero] at hS7
            go_roundw
            case rel =>
              refine ⟨k + 1, uo.take m ++ [.slice ua (xat A k).length uc] ++ uo.drop m, by omega, by go_num, by rw [Hid, srtL_len, List.length_take]; simp [hlo.out]; omega, ?_⟩
              have he := ins_srt hlt hm HA1.out hI.out
              rw [← he]
              rw [show (uo.take k).drop m = uo.drop m by rw [← hlS, ← hlo.out, List.take_length]] at hS7
              have hp := hS7.sub (L' := row 46 v7 (uo.take m ++ [.slice ua (xat A k).length uc] ++ uo.drop m) :: (rowsI uo S ++ [row 2 (.slice ua (xat A k).length uc) (iv (xat A k))])) ((List.sublist_cons_self _ _).cons_cons _)
              refine hp.perm ?_
              unfold own2
              refine List.Perm.cons _ ?_
              exact rows_ins hlo.out hm _ _
            case measure => simp [intOf]; omega
        · have HA1 := Lib.hid (show S = srtL (A.take k) ∧ (∀ j, j < m → leL (xat S j) (xat A k) = true) from ⟨HSe.out, fun j hj => by omega⟩)
          go_wp2_with fail
          have hne : Nonempty (SS _ _ _) := ⟨⟨_, hS⟩⟩
          refine wp_region_st (by kernel_rfl) (by kernel_rfl) hS ?_
          repeat (go_big_quiet_step (fail))
          refine wpQuiet_nil ?_
          rintro _ ⟨s2, rfl⟩
          have hS2 := s2.st
          generalize s2.w = w2 at hS2 ⊢
          clear hS
          have hone := Lib.hid (fun u (hu : u ∈ uo) => (show u.oneCell' = true by
            obtain ⟨j, hj, rfl⟩ := List.getElem_of_mem hu
            rw [← vat_eq hj]
            exact ((rii2 (L2 := []) (by rw [List.append_nil]; exact hS2) hlo.out).row j (by rw [← hlo.out]; exact hj)).sl.one))
          have hrd := hS2.rd 0 (e := 46) (v := u3) (us := uo) rfl
          have hsl := rslII_hi hrd m (by rw [hlo.out]; omega)
          have hsl2 := rslII_lo2 hrd m (by rw [hlo.out]; omega)
          rw [hlo.out] at hsl2
          have hrk := Lib.hid ((hS2.oldII hv).row k hlt)
          have hk1 := (hS2.oldII hv).cell k hlt
          have hS3 := (hS2.new 46 #[] (by simp)).perm List.perm_append_comm
          simp only [List.cons_append, List.nil_append] at hS3
          have Hrd := Lib.hid (hS3.rd 1 (e := 46) (v := u3) (us := uo) rfl)
          clear hrd
          go_wp2_with (at_builtin; refine appsII2 hS3 0 rfl _ _ (rsl_Rd Hrd.out (Nat.zero_le m) (by rw [hlo.out]; omega)) (fun u hu => hone.out u (List.mem_of_mem_take (List.mem_of_mem_drop hu))) (by simp [hlo.out]; omega) rfl _ _ rfl rfl rfl ?_; intro v4 w4 hS4; have hk4 := (hS4.oldII hv).cell k hlt)
          have hrk4 := (hS4.oldII hv).row k hlt
          refine (l00Own_c _ _ _ hrk4 (hNr.out _ (xat_mem hlt))).mono ?_
          rintro e w5 ⟨u5, rfl, h5⟩
          obtain ⟨ua, uc, hle⟩ := (h5.rdI 0 rfl).sl.sh
          rw [iv_len] at hle
          subst hle
          have hS5 := hS4.call h5
          simp only [List.set_cons_zero, List.cons_append, List.nil_append, List.drop_zero] at hS5
          have hl5 := Lib.hid (show (uo.take m).length = m by rw [List.length_take, hlo.out]; omega)
          clear hS3 hS4 h5 hrk4 hk4
          have hN5 : (uo.take m).length < 4294967296 := (by rw [hl5.out]; omega)
          have hN5 := Lib.hid hN5
          go_wp2_with (first | (at_builtin; refine appsII2 hS6 0 rfl _ _ hrd6.out hone6.out hN6.out rfl _ _ rfl rfl rfl ?_; intro v7 w7 hS7) | (at_builtin; refine appII hS5 0 rfl hN5.out rfl _ _ rfl rfl _ rfl rfl ?_; intro v6 w6 hS6; simp only [List.set_cons_zero] at hS6; have hrd6 := Lib.hid (rsl_Rd (hS6.rd 1 (e := 46) (v := u3) (us := uo) rfl) (lo := m) (hi := k) (by omega) (by rw [hlo.out]; omega)); have hone6 := Lib.hid (fun u (hu : u ∈ (uo.take k).drop m) => hone.out u (List.mem_of_mem_take (List.mem_of_mem_drop hu))); have hN6 := Lib.hid (show (uo.take m ++ [Value.slice ua (xat A k).length uc]).length + ((uo.take k).drop m).length ≤ 4294967296 by simp only [List.length_append, List.length_drop, List.length_take, List.length_singleton, hlo.out]; omega)))
          simp only [List.set_cons_zero] at hS7
          go_roundw
          case rel =>
            refine ⟨k + 1, uo.take m ++ [.slice ua (xat A k).length uc] ++ uo.drop m, by omega, by go_num, by rw [Hid, srtL_len, List.length_take]; simp [hlo.out]; omega, ?_⟩
            have he := ins_srt hlt hm HA1.out hI.out
            rw [← he]
            rw [show (uo.take k).drop m = uo.drop m by rw [← hlS, ← hlo.out, List.take_length]] at hS7
            have hp := hS7.sub (L' := row 46 v7 (uo.take m ++ [.slice ua (xat A k).length uc] ++ uo.drop m) :: (rowsI uo S ++ [row 2 (.slice ua (xat A k).length uc) (iv (xat A k))])) ((List.sublist_cons_self _ _).cons_cons _)
            refine hp.perm ?_
            unfold own2
            refine List.Perm.cons _ ?_
            exact rows_ins hlo.out hm _ _
          case measure => simp [intOf]; omega
    · obtain rfl : k = A.length := by omega
      rw [List.take_length] at hS hlo
      go_wp2_with fail
      go_ret
      exact ⟨_, uo, rfl, hlo.out, hS⟩
end Go.Proofs.YtljemlfocajhnaaGreat
end

section
/- Plain: a number put into an increasing list. -/
namespace Go.Proofs.YtljemlfocajhnaaGreat
set_option linter.unusedSimpArgs false
set_option linter.unusedVariables false

/-- a number put into an increasing list -/
def putL : List Int → Int → List Int
  | [], n => [n]
  | x :: r, n => if n < x then n :: x :: r else if x = n then x :: r else x :: putL r n
theorem putL_len : ∀ (xs : List Int) (n : Int), (putL xs n).length ≤ xs.length + 1
  | [], n => by simp [putL]
  | x :: r, n => by
    rw [putL]
    split
    · simp
    · split
      · simp
      · have := putL_len r n; simp; omega
end Go.Proofs.YtljemlfocajhnaaGreat
end

section
/- Plain: the designs that the reference knows. -/
namespace Go.Proofs.YtljemlfocajhnaaGreat
set_option linter.unusedSimpArgs false
set_option linter.unusedVariables false

def fanL : List (List Int) := [[0, 1, 3], [1, 2, 4], [2, 3, 5], [3, 4, 6], [0, 4, 5], [1, 5, 6], [0, 2, 6]]
/-- all pairs, the first point below a -/
def prR (n a : Nat) : List (List Int) := (List.range (n - (a + 1))).map fun t => [(a : Int), (a : Int) + 1 + (t : Nat)]
def prA (n : Nat) : Nat → List (List Int)
  | 0 => []
  | a + 1 => prA n a ++ prR n a
theorem prR_take {n a t : Nat} (h : t < n - (a + 1)) : (prR n a).take (t + 1) = (prR n a).take t ++ [[(a : Int), (a : Int) + 1 + (t : Nat)]] := by
  rw [List.take_add_one, List.getElem?_eq_getElem (by simp [prR]; exact h)]
  simp [prR]
/-- translates of a set modulo m -/
def trS (m k : Nat) (S : List Int) : Nat → List Int
  | 0 => []
  | j + 1 => putL (trS m k S j) ((nth S j + k) % m)
def trB (m : Nat) (S : List Int) (k : Nat) : List Int := trS m k S S.length
def tlK (m : Nat) (S : List Int) (k : Nat) : List (List Int) := (List.range k).map (trB m S)
theorem tlK_succ (m : Nat) (S : List Int) (k : Nat) : tlK m S (k + 1) = tlK m S k ++ [trB m S k] := by
  rw [tlK, List.range_succ, List.map_append]; rfl
theorem trS_len (m k : Nat) (S : List Int) : ∀ j, (trS m k S j).length ≤ j
  | 0 => Nat.le_refl _
  | j + 1 => by rw [trS]; have := putL_len (trS m k S j) ((nth S j + k) % m); have := trS_len m k S j; omega
def S5 : List Int := [1, 3, 4, 5, 9]
def S4 : List Int := [0, 1, 3, 9]
/-- the designs: numbers of points, and blocks -/
def knL : List (Nat × List (List Int)) := [(7, srtL fanL), (3, srtL (prA 3 3)), (4, srtL (prA 4 4)), (5, srtL (prA 5 5)), (6, srtL (prA 6 6)), (11, srtL (tlK 11 S5 11)), (13, srtL (tlK 13 S4 13))]
end Go.Proofs.YtljemlfocajhnaaGreat
end

section
/- Walks: the reference puts a number into an increasing list. -/
namespace Go.Proofs.YtljemlfocajhnaaGreat
set_option linter.unusedSimpArgs false
set_option linter.unusedVariables false
open Go.RowKit


/-- what l00Put has made so far -/
def PutI (xs : List Int) (n : Int) (k : Nat) (b : Bool) (ys : List Int) : Prop :=
  (b = false → ys = xs.take k ∧ putL xs n = xs.take k ++ putL (xs.drop k) n) ∧ (b = true → ys ++ xs.drop k = putL xs n)
theorem PutI.len {xs : List Int} {n : Int} {k : Nat} {b : Bool} {ys : List Int} (h : PutI xs n k b ys) (hk : k ≤ xs.length) : ys.length ≤ xs.length + 1 := by
  cases b
  · rw [(h.1 rfl).1, List.length_take]; omega
  · have h1 := congrArg List.length (h.2 rfl)
    have := putL_len xs n
    rw [List.length_append] at h1; omega
theorem PutI.go {xs : List Int} {n : Int} {k : Nat} {ys : List Int} (h : PutI xs n k true ys) (hk : k < xs.length) : PutI xs n (k + 1) true (ys ++ [nth xs k]) :=
  ⟨fun h => absurd h (by decide), fun _ => by rw [← h.2 rfl, drop_nth hk]; simp⟩
theorem PutI.lt {xs : List Int} {n : Int} {k : Nat} {ys : List Int} (h : PutI xs n k false ys) (hk : k < xs.length) (hn : nth xs k < n) : PutI xs n (k + 1) false (ys ++ [nth xs k]) := by
  obtain ⟨h1, h2⟩ := h.1 rfl
  refine ⟨fun _ => ⟨by rw [h1, take_nth hk], ?_⟩, fun h => absurd h (by decide)⟩
  rw [h2, drop_nth hk, putL, if_neg (by omega), if_neg (by omega), take_nth hk]; simp
theorem PutI.eq {xs : List Int} {n : Int} {k : Nat} {ys : List Int} (h : PutI xs n k false ys) (hk : k < xs.length) (hn : nth xs k = n) : PutI xs n (k + 1) true (ys ++ [nth xs k]) := by
  obtain ⟨h1, h2⟩ := h.1 rfl
  refine ⟨fun h => absurd h (by decide), fun _ => ?_⟩
  rw [h2, drop_nth hk, putL, if_neg (by omega), if_pos hn, h1]; simp
theorem PutI.gt {xs : List Int} {n : Int} {k : Nat} {ys : List Int} (h : PutI xs n k false ys) (hk : k < xs.length) (hn : n < nth xs k) : PutI xs n (k + 1) true ((ys ++ [n]) ++ [nth xs k]) := by
  obtain ⟨h1, h2⟩ := h.1 rfl
  refine ⟨fun h => absurd h (by decide), fun _ => ?_⟩
  rw [h2, drop_nth hk, putL, if_pos hn, h1]; simp
theorem PutI.end0 {xs : List Int} {n : Int} {ys : List Int} (h : PutI xs n xs.length false ys) : ys ++ [n] = putL xs n := by
  obtain ⟨h1, h2⟩ := h.1 rfl
  rw [h2, h1, List.drop_length, putL]
theorem PutI.end1 {xs : List Int} {n : Int} {ys : List Int} (h : PutI xs n xs.length true ys) : ys = putL xs n := by
  have := h.2 rfl
  rwa [List.drop_length, List.append_nil] at this
set_option maxHeartbeats 2000000 in
set_option maxRecDepth 100000 in
theorem l00PutX_c (v : Value) (xs : List Int) (n : Int) (w : World) (hv : RdI w v xs) (hxs : xs.length ≤ 1000000) :
    Calls Tryz.prog 92 #[v, .int .i64 n] w (MakesI w (putL xs n)) := by
  have hln := hv.len
  have hix := hv.ix
  have hm := hv.le
  go_enter Tryz.func92, Tryz.ntmps92
  go_wp2_with fail
  go_loopw [5, 6, 7] (fun o d i wr => ∃ (k : Nat) (b : Bool) (ys : List Int), k ≤ xs.length ∧ i = .int .i64 k ∧ d = .bool b ∧ Hid (PutI xs n k b ys) ∧ ys.length ≤ xs.length + 1 ∧ St w.heap.size w wr [row 2 o (iv ys)]) (fun _ _ i _ => xs.length - (intOf i).toNat)
  case atStart => exact ⟨0, false, [], by omega, rfl, rfl, ⟨fun _ => ⟨rfl, rfl⟩, fun h => absurd h (by decide)⟩, by simp, St.emp0⟩
  case round =>
    obtain ⟨k, b, ys, hk, rfl, rfl, hI, hy, hS⟩ := hrel
    by_cases hlt : k < xs.length
    · have hc := (hS.oldI hv).cell k hlt
      cases b
      · by_cases h1 : n ≤ nth xs k
        · by_cases h2 : n < nth xs k
          · have hJ := Lib.hid (hI.out.gt hlt h2)
            have hJl := hJ.out.len hlt
            go_wp2_with (first | (at_builtin; refine appI hS 0 rfl (by omega) rfl (.tmp 31) (.tmp 33) rfl rfl _ rfl ?_; intro v' w2 hS2; have hc2 := (hS2.oldI hv).cell k hlt) | (at_builtin; refine appI hS2 0 rfl (by simp; omega) rfl (.tmp 35) (.tmp 40) rfl rfl _ rfl ?_; intro v2 w3 hS3))
            go_roundw
            case rel => exact ⟨k + 1, true, _, by omega, by go_num, rfl, hJ.out, hJl, hS3⟩
            case measure => simp [intOf]; omega
          · have hJ := Lib.hid (hI.out.eq hlt (by omega))
            have hJl := hJ.out.len hlt
            go_wp2_with (at_builtin; refine appI hS 0 rfl (by omega) rfl (.tmp 35) (.tmp 40) rfl rfl _ rfl ?_; intro v2 w3 hS3)
            go_roundw
            case rel => exact ⟨k + 1, true, _, by omega, by go_num, rfl, hJ.out, hJl, hS3⟩
            case measure => simp [intOf]; omega
        · have hJ := Lib.hid (hI.out.lt hlt (by omega))
          have hJl := hJ.out.len hlt
          go_wp2_with (at_builtin; refine appI hS 0 rfl (by omega) rfl (.tmp 35) (.tmp 40) rfl rfl _ rfl ?_; intro v2 w3 hS3)
          go_roundw
          case rel => exact ⟨k + 1, false, _, by omega, by go_num, rfl, hJ.out, hJl, hS3⟩
          case measure => simp [intOf]; omega
      · have hJ := Lib.hid (hI.out.go hlt)
        have hJl := hJ.out.len hlt
        go_wp2_with (at_builtin; refine appI hS 0 rfl (by omega) rfl (.tmp 35) (.tmp 40) rfl rfl _ rfl ?_; intro v2 w3 hS3)
        go_roundw
        case rel => exact ⟨k + 1, true, _, by omega, by go_num, rfl, hJ.out, hJl, hS3⟩
        case measure => simp [intOf]; omega
    · obtain rfl : k = xs.length := by omega
      cases b
      · have hJ := Lib.hid hI.out.end0
        go_wp2_with (at_builtin; refine appI hS 0 rfl (by omega) rfl (.tmp 44) (.tmp 46) rfl rfl _ rfl ?_; intro v2 w3 hS3)
        go_ret
        exact ⟨_, rfl, by rw [← hJ.out]; exact hS3⟩
      · have hJ := Lib.hid hI.out.end1
        go_wp2_with fail
        go_ret
        exact ⟨_, rfl, by rw [← hJ.out]; exact hS⟩
end Go.Proofs.YtljemlfocajhnaaGreat
end

section
/- Walks: the designs that the reference knows. -/
namespace Go.Proofs.YtljemlfocajhnaaGreat
set_option linter.unusedSimpArgs false
set_option linter.unusedVariables false
open Go.RowKit
attribute [local go_sem ↓] Go.wp_at_zero Go.wp_at_succ

theorem St.empII0 {B : Nat} {w0 w : World} {L : List Ent} (h : St B w0 w L) : St B w0 (w.alloc (.cells #[] 46)) (L ++ [row 46 (.slice (some ⟨w.heap.size, 0, none⟩) 0 0) []]) := h.new 46 #[] (by simp)
theorem prA_len (n : Nat) : ∀ a, (prA n a).length ≤ a * n
  | 0 => Nat.zero_le _
  | a + 1 => by
    rw [prA, List.length_append, Nat.succ_mul]
    have := prA_len n a
    have : (prR n a).length ≤ n := by simp [prR]
    omega
theorem prA_rows (n : Nat) : ∀ a, ∀ xs ∈ prA n a, xs.length ≤ 1048576
  | 0, xs, h => by cases h
  | a + 1, xs, h => by
    rw [prA] at h
    rcases List.mem_append.1 h with h | h
    · exact prA_rows n a xs h
    · obtain ⟨t, _, rfl⟩ := List.mem_map.1 h
      simp
/-- a design that is known -/
def MakesKn (w0 : World) (cv : Value) (g K : Nat) (L : List Ent) (e : Ending) (w' : World) : Prop := ∃ (P : Nat) (A : List (List Int)) (v : Value) (us : List Value), (P, A) ∈ knL ∧ e = .returned (dv P v) ∧ us.length = A.length ∧ Src w0 w' cv g K (own2 v us A ++ L)
set_option maxHeartbeats 16000000 in
set_option maxRecDepth 100000 in
theorem l10Known_c (w0 w : World) (cv : Value) (bs : List UInt8) (g K : Nat) (L : List Ent) (hb : RdB w0 cv bs) (h : Src w0 w cv g K L) (hK : K < 100000000) :
    Calls Tryz.prog 82 #[.pointer (some ⟨g, 0, none⟩)] w (MakesKn w0 cv g (K + 10) L) := by
  have h1 := h.newboxF 26 #[.int .i64 0, .slice none 0 0]
  clear h
  obtain ⟨p0, s0, q0, q1, hS⟩ := h1
  have hF := (((((((hS.new 2 #[.int .i64 0, .int .i64 1, .int .i64 3] (by simp [maxLen])).new 2 #[.int .i64 1, .int .i64 2, .int .i64 4] (by simp [maxLen])).new 2 #[.int .i64 2, .int .i64 3, .int .i64 5] (by simp [maxLen])).new 2 #[.int .i64 3, .int .i64 4, .int .i64 6] (by simp [maxLen])).new 2 #[.int .i64 0, .int .i64 4, .int .i64 5] (by simp [maxLen])).new 2 #[.int .i64 1, .int .i64 5, .int .i64 6] (by simp [maxLen])).new 2 #[.int .i64 0, .int .i64 2, .int .i64 6] (by simp [maxLen]))
  simp only [World.size_alloc, List.size_toArray, List.length_cons, List.length_nil, Nat.zero_add, Nat.reduceAdd] at hF
  have hF := hF.new 46 #[.slice (some ⟨w.heap.size + 1, 0, none⟩) 3 3, .slice (some ⟨w.heap.size + 1 + 1, 0, none⟩) 3 3, .slice (some ⟨w.heap.size + 1 + 1 + 1, 0, none⟩) 3 3, .slice (some ⟨w.heap.size + 1 + 1 + 1 + 1, 0, none⟩) 3 3, .slice (some ⟨w.heap.size + 1 + 1 + 1 + 1 + 1, 0, none⟩) 3 3, .slice (some ⟨w.heap.size + 1 + 1 + 1 + 1 + 1 + 1, 0, none⟩) 3 3, .slice (some ⟨w.heap.size + 1 + 1 + 1 + 1 + 1 + 1 + 1, 0, none⟩) 3 3] (by simp [maxLen])
  simp only [World.size_alloc, List.size_toArray, List.length_cons, List.length_nil, Nat.zero_add, Nat.reduceAdd] at hF
  have hF2 : ∃ uf : List Value, uf.length = 7 ∧ St w0.heap.size w0 _ (box 59 g [cv, .int .i64 p0, .int .u64 s0] :: box 26 w.heap.size [.int .i64 0, .slice none 0 0] :: (own2 (.slice (some ⟨w.heap.size + 1 + 1 + 1 + 1 + 1 + 1 + 1 + 1, 0, none⟩) 7 7) uf fanL ++ L)) :=
    ⟨[.slice (some ⟨w.heap.size + 1, 0, none⟩) 3 3, .slice (some ⟨w.heap.size + 1 + 1, 0, none⟩) 3 3, .slice (some ⟨w.heap.size + 1 + 1 + 1, 0, none⟩) 3 3, .slice (some ⟨w.heap.size + 1 + 1 + 1 + 1, 0, none⟩) 3 3, .slice (some ⟨w.heap.size + 1 + 1 + 1 + 1 + 1, 0, none⟩) 3 3, .slice (some ⟨w.heap.size + 1 + 1 + 1 + 1 + 1 + 1, 0, none⟩) 3 3, .slice (some ⟨w.heap.size + 1 + 1 + 1 + 1 + 1 + 1 + 1, 0, none⟩) 3 3], rfl, hF.perm (by
      simp only [own2, rowsI, fanL, List.zipWith, iv, List.map]
      exact (by (try simp only [own2, List.cons_append, List.nil_append, List.append_nil]); classical exact List.perm_iff_count.2 (fun a => by simp only [List.cons_append, List.nil_append, List.append_nil, List.count_append, List.count_cons, List.count_nil] <;> omega)))⟩
  obtain ⟨uf, hlf, hF3⟩ := hF2
  have h2 : Src w0 _ cv g K (box 26 w.heap.size [.int .i64 0, .slice none 0 0] :: (own2 (.slice (some ⟨w.heap.size + 1 + 1 + 1 + 1 + 1 + 1 + 1 + 1, 0, none⟩) 7 7) uf fanL ++ L)) := ⟨p0, s0, q0, q1, hF3⟩
  have Hlf := Lib.hid hlf
  clear hF hS hF3 hlf q0 q1
  go_enter Tryz.func82, Tryz.ntmps82
  go_wp2_with fail
  refine (pick_c w0 _ cv bs g _ _ 4 hb h2 (by omega)).mono ?_
  rintro e w2 ⟨z, z0, z1, rfl, h3⟩
  clear h2
  by_cases e0 : z = 0
  · subst e0
    obtain ⟨pp, ss, p0, p1, hS⟩ := h3
    have HP0 := Lib.hid (And.intro p0 p1)
    have ro := rii2 (L2 := L) (hS.sub ((List.sublist_cons_self _ _).trans (List.sublist_cons_self _ _))) (by rw [Hlf.out]; rfl)
    have HSt := Lib.hid (l10Sort_c _ uf fanL w2 ro (by decide) (by decide))
    have hB := hS.sub (L' := box 59 g [cv, .int .i64 pp, .int .u64 ss] :: box 26 w.heap.size [.int .i64 0, .slice none 0 0] :: L) (((List.sublist_append_right _ _).cons_cons _).cons_cons _)
    clear hS ro p0 p1
    go_wp2_with fail
    refine HSt.out.mono ?_
    clear HSt
    rintro e w5 ⟨v5, us5, rfl, hl5, h5⟩
    obtain ⟨ua, uc, hv5⟩ := (h5.rd 0 (e := 46) (v := v5) (us := us5) rfl).sl.sh
    rw [hl5, srtL_len] at hv5
    generalize hLn : fanL.length = Ln at *
    subst hv5
    have hB5 := hB.call h5
    have c0 := hB5.bcell 1 rfl 0 rfl
    have c1 := hB5.bcell 1 rfl 1 rfl
    have f0 := hB5.bfree 1 rfl
    have h6 := (hB5.bstore 1 rfl 0 (.int .i64 7)).bstore 1 rfl 1 (.slice ua Ln uc)
    have d0 := h6.bcell 1 rfl 0 rfl
    have d1 := h6.bcell 1 rfl 1 rfl
    clear hB h5 hB5 hLn
    go_wp2_with fail
    refine bodyPost_ret (v := .agg #[.int .i64 7, .slice ua Ln uc]) (by simp [results, Tryz.results82, go_sem, d0, d1]) rfl ?_
    have h7 := h6.perm (L' := box 59 g [cv, .int .i64 pp, .int .u64 ss] :: ((own2 (.slice ua Ln uc) us5 (srtL fanL) ++ L) ++ [box 26 w.heap.size [.int .i64 7, .slice ua Ln uc]])) (by
      simp only [List.set_cons_succ, List.set_cons_zero, List.cons_append]
      exact (by (try simp only [own2, List.cons_append, List.nil_append, List.append_nil]); classical exact List.perm_iff_count.2 (fun a => by simp only [List.cons_append, List.nil_append, List.append_nil, List.count_append, List.count_cons, List.count_nil] <;> omega)))
    exact ⟨_, _, _, us5, by simp [knL], rfl, hl5, ⟨pp, ss, HP0.out.1, by have := HP0.out.2; omega, h7.sub ((List.sublist_append_left _ _).cons_cons _)⟩⟩
  · have f0 := eq_f e0
    by_cases e1 : z = 1
    · subst e1
      go_wp2_with fail
      refine (pick_c w0 _ cv bs g _ _ 4 hb h3.empII (by omega)).mono ?_
      rintro e w3 ⟨x, x0, x1, rfl, h4⟩
      obtain ⟨n, hn⟩ : ∃ n : Nat, 3 + x = n := ⟨(3 + x).toNat, by omega⟩
      have hn3 : 3 ≤ n := by omega
      have hn6 : n ≤ 6 := by omega
      obtain ⟨pp, ss, p0, p1, hS⟩ := h4
      have HP0 := Lib.hid (And.intro p0 p1)
      have hE0 := hS.sub (L' := box 59 g [cv, .int .i64 pp, .int .u64 ss] :: row 46 (.slice (some ⟨w2.heap.size, 0, none⟩) 0 0) [] :: box 26 w.heap.size [.int .i64 0, .slice none 0 0] :: L) ((((List.sublist_append_right _ _).cons_cons _).cons_cons _).cons_cons _)
      have hE := hE0.perm (L' := row 46 (.slice (some ⟨w2.heap.size, 0, none⟩) 0 0) [] :: (box 59 g [cv, .int .i64 pp, .int .u64 ss] :: box 26 w.heap.size [.int .i64 0, .slice none 0 0] :: L)) (by (try simp only [own2, List.cons_append, List.nil_append, List.append_nil]); classical exact List.perm_iff_count.2 (fun a => by simp only [List.cons_append, List.nil_append, List.append_nil, List.count_append, List.count_cons, List.count_nil] <;> omega))
      clear h3 hS hE0 p0 p1
      go_wp2_with fail
      try rw [hn]
      clear hn x0 x1
      go_loopw [4, 6, 7] (fun o i _ wr => ∃ (a : Nat) (uo : List Value), a ≤ n ∧ i = .int .i64 a ∧ Hid (uo.length = (prA n a).length) ∧ St w0.heap.size w0 wr (own2 o uo (prA n a) ++ (box 59 g [cv, .int .i64 pp, .int .u64 ss] :: box 26 w.heap.size [.int .i64 0, .slice none 0 0] :: L))) (fun _ i _ _ => n - (intOf i).toNat)
      case atStart => exact ⟨0, [], by omega, rfl, rfl, hE⟩
      case round =>
        clear hE
        obtain ⟨a, uo, ha, rfl, hlo, hS⟩ := hrel
        have hla := prA_len n a
        have han : a * n ≤ 36 := Nat.mul_le_mul (show a ≤ 6 by omega) hn6
        by_cases hlt : a < n
        · have hlti : (a : Int) < n := by omega
          have HA := Lib.hid (show prA n (a + 1) = prA n a ++ prR n a from rfl)
          have hS2 : St w0.heap.size w0 wr (own2 u4 uo (prA n a ++ (prR n a).take 0) ++ (box 59 g [cv, .int .i64 pp, .int .u64 ss] :: box 26 w.heap.size [.int .i64 0, .slice none 0 0] :: L)) := by rw [List.take_zero, List.append_nil]; exact hS
          have hlo2 : Hid (uo.length = (prA n a ++ (prR n a).take 0).length) := by rw [List.take_zero, List.append_nil]; exact hlo
          clear hS
          go_wp2_with fail
          go_loopw [4, 7] (fun o i wr => ∃ (t : Nat) (uo : List Value), t ≤ n - (a + 1) ∧ i = .int .i64 ((a : Int) + 1 + t) ∧ Hid (uo.length = (prA n a ++ (prR n a).take t).length) ∧ St w0.heap.size w0 wr (own2 o uo (prA n a ++ (prR n a).take t) ++ (box 59 g [cv, .int .i64 pp, .int .u64 ss] :: box 26 w.heap.size [.int .i64 0, .slice none 0 0] :: L))) (fun _ i _ => n - (intOf i).toNat)
          case atStart => exact ⟨0, uo, by omega, by simp, hlo2, hS2⟩
          case round =>
            clear hS2 hlo2 hlo
            obtain ⟨t, uo, ht, rfl, hlo, hS⟩ := hrel
            by_cases htn : t < n - (a + 1)
            · have hlt2 : (a : Int) + 1 + t < n := by omega
              have Ht := Lib.hid (prR_take (n := n) (a := a) htn)
              have hS1 := hS.new 2 #[.int .i64 a, .int .i64 ((a : Int) + 1 + t)] (by simp [maxLen])
              simp only [World.size_alloc, List.size_toArray, List.length_cons, List.length_nil, Nat.zero_add, Nat.reduceAdd] at hS1
              have hul := Lib.hid (show uo.length < 4294967296 by
                rw [hlo.out]; simp only [List.length_append, List.length_take]; omega)
              clear hS
              go_wp2_with (at_builtin; go_loud (refine appII hS1 0 rfl hul.out rfl _ _ rfl rfl _ rfl (by simp [Act.eval, World.size_alloc]) ?_; intro v8 w8 hS8))
              go_roundw
              case rel =>
                refine ⟨t + 1, uo ++ [.slice (some ⟨wr.heap.size, 0, none⟩) 2 2], by omega, by first | go_num | (congr 1; omega), ?_, ?_⟩
                · rw [Hid, Ht.out, ← List.append_assoc, List.length_append, List.length_append, hlo.out]; rfl
                · rw [Ht.out, ← List.append_assoc, own2, rowsI_app hlo.out]
                  have h9 : St w0.heap.size w0 w8 (row 46 v8 (uo ++ [.slice (some ⟨wr.heap.size, 0, none⟩) 2 2]) :: (rowsI uo (prA n a ++ (prR n a).take t) ++ (box 59 g [cv, .int .i64 pp, .int .u64 ss] :: box 26 w.heap.size [.int .i64 0, .slice none 0 0] :: L) ++ [row 2 (.slice (some ⟨wr.heap.size, 0, none⟩) 2 2) (iv [(a : Int), (a : Int) + 1 + (t : Nat)])])) := hS8
                  exact h9.perm (by (try simp only [own2, List.cons_append, List.nil_append, List.append_nil]); classical exact List.perm_iff_count.2 (fun a => by simp only [List.cons_append, List.nil_append, List.append_nil, List.count_append, List.count_cons, List.count_nil] <;> omega))
              case measure => simp [intOf]; omega
            · obtain rfl : t = n - (a + 1) := by omega
              rw [List.take_of_length_le (by simp [prR]), ← HA.out] at hS hlo
              have hge : ¬ ((a : Int) + 1 + ((n - (a + 1) : Nat) : Int)) < n := by omega
              go_wp2_with fail
              go_roundw
              case rel => exact ⟨a + 1, uo, by omega, by go_num, hlo, hS⟩
              case measure => simp [intOf]; omega
        · obtain rfl : a = n := by omega
          have ro : RII wr u4 uo (prA a a) := rii2 hS hlo.out
          have HSt := Lib.hid (l10Sort_c u4 uo (prA a a) wr ro (by omega) (prA_rows a a))
          have hB := (hS.sub (List.sublist_append_right _ _))
          have HM := Lib.hid (show (a, srtL (prA a a)) ∈ knL by
            rcases (show a = 3 ∨ a = 4 ∨ a = 5 ∨ a = 6 by omega) with rfl | rfl | rfl | rfl <;> simp [knL])
          clear hS ro hla han
          go_wp2_with fail
          refine HSt.out.mono ?_
          clear HSt
          rintro e w5 ⟨v5, us5, rfl, hl5, h5⟩
          obtain ⟨ua, uc, hv5⟩ := (h5.rd 0 (e := 46) (v := v5) (us := us5) rfl).sl.sh
          rw [hl5, srtL_len] at hv5
          generalize hLn : (prA a a).length = Ln at *
          subst hv5
          have hB5 := hB.call h5
          have c0 := hB5.bcell 1 rfl 0 rfl
          have c1 := hB5.bcell 1 rfl 1 rfl
          have f0 := hB5.bfree 1 rfl
          have h6 := (hB5.bstore 1 rfl 0 (.int .i64 a)).bstore 1 rfl 1 (.slice ua Ln uc)
          have d0 := h6.bcell 1 rfl 0 rfl
          have d1 := h6.bcell 1 rfl 1 rfl
          clear hB h5 hB5 hLn
          go_wp2_with fail
          refine bodyPost_ret (v := .agg #[.int .i64 a, .slice ua Ln uc]) (by simp [results, Tryz.results82, go_sem, d0, d1]) rfl ?_
          have h7 := h6.perm (L' := box 59 g [cv, .int .i64 pp, .int .u64 ss] :: ((own2 (.slice ua Ln uc) us5 (srtL (prA a a)) ++ L) ++ [box 26 w.heap.size [.int .i64 a, .slice ua Ln uc]])) (by
            simp only [List.set_cons_succ, List.set_cons_zero, List.cons_append]
            exact (by (try simp only [own2, List.cons_append, List.nil_append, List.append_nil]); classical exact List.perm_iff_count.2 (fun a => by simp only [List.cons_append, List.nil_append, List.append_nil, List.count_append, List.count_cons, List.count_nil] <;> omega)))
          exact ⟨_, _, _, us5, HM.out, rfl, hl5, ⟨pp, ss, HP0.out.1, by have := HP0.out.2; omega, h7.sub ((List.sublist_append_left _ _).cons_cons _)⟩⟩
    · have f1 := eq_f e1
      by_cases e2 : z = 2
      · subst e2
        obtain ⟨pp, ss, p0, p1, hS⟩ := h3
        have HP0 := Lib.hid (And.intro p0 p1)
        have hS := hS.sub (L' := box 59 g [cv, .int .i64 pp, .int .u64 ss] :: box 26 w.heap.size [.int .i64 0, .slice none 0 0] :: L) (((List.sublist_append_right _ _).cons_cons _).cons_cons _)
        have h1 := (); have h2 := ()
        clear p0 p1
        have hE := (hS.empII0).perm (L' := row 46 (.slice (some ⟨w2.heap.size, 0, none⟩) 0 0) [] :: (box 59 g [cv, .int .i64 pp, .int .u64 ss] :: box 26 w.heap.size [.int .i64 0, .slice none 0 0] :: L)) (by (try simp only [own2, List.cons_append, List.nil_append, List.append_nil]); classical exact List.perm_iff_count.2 (fun a => by simp only [List.cons_append, List.nil_append, List.append_nil, List.count_append, List.count_cons, List.count_nil] <;> omega))
        clear h1 h2 hS
        go_wp2_with fail
        go_loopw [8, 9, 10, 12] (fun o i _ _ wr => ∃ (k : Nat) (uo : List Value), k ≤ 11 ∧ i = .int .i64 k ∧ Hid (uo.length = k) ∧ St w0.heap.size w0 wr (own2 o uo (tlK 11 S5 k) ++ (box 59 g [cv, .int .i64 pp, .int .u64 ss] :: box 26 w.heap.size [.int .i64 0, .slice none 0 0] :: L))) (fun _ i _ _ _ => 11 - (intOf i).toNat)
        case atStart => exact ⟨0, [], by omega, rfl, rfl, hE⟩
        case round =>
          clear hE
          obtain ⟨k, uo, hk, rfl, hlo, hS⟩ := hrel
          obtain ⟨wo, rfl⟩ : ∃ wo : World, wo = wr := ⟨_, rfl⟩
          have hlT : (tlK 11 S5 k).length = k := by simp [tlK]
          by_cases hlt : k < 11
          · have hlti : (k : Int) < 11 := by omega
            have hS1 := (hS.new 2 #[] (by simp)).new 2 #[.int .i64 1, .int .i64 3, .int .i64 4, .int .i64 5, .int .i64 9] (by simp [maxLen])
            simp only [World.size_alloc, List.size_toArray, List.length_cons, List.length_nil, Nat.zero_add, Nat.reduceAdd] at hS1
            have hS2 : St w0.heap.size w0 _ (row 2 (.slice (some ⟨wo.heap.size + 1, 0, none⟩) 5 5) (iv S5) :: row 2 (.slice (some ⟨wo.heap.size, 0, none⟩) 0 0) (iv (trS 11 k S5 0)) :: (own2 u8 uo (tlK 11 S5 k) ++ (box 59 g [cv, .int .i64 pp, .int .u64 ss] :: box 26 w.heap.size [.int .i64 0, .slice none 0 0] :: L))) := hS1.perm (L' := row 2 (.slice (some ⟨wo.heap.size + 1, 0, none⟩) 5 5) [.int .i64 1, .int .i64 3, .int .i64 4, .int .i64 5, .int .i64 9] :: row 2 (.slice (some ⟨wo.heap.size, 0, none⟩) 0 0) [] :: (own2 u8 uo (tlK 11 S5 k) ++ (box 59 g [cv, .int .i64 pp, .int .u64 ss] :: box 26 w.heap.size [.int .i64 0, .slice none 0 0] :: L))) (by (try simp only [own2, List.cons_append, List.nil_append, List.append_nil]); classical exact List.perm_iff_count.2 (fun a => by simp only [List.cons_append, List.nil_append, List.append_nil, List.count_append, List.count_cons, List.count_nil] <;> omega))
            have hl5 := (hS2.rdI 0 rfl).len
            have hi5 := (hS2.rdI 0 rfl).ix
            have hn5 : (S5).length = 5 := rfl
            rw [hn5] at hl5 hi5
            have HT := Lib.hid (tlK_succ 11 S5 k)
            have Hlt := Lib.hid hlT
            clear hS1 hS hlT
            go_wp2_with fail
            go_loopw [10, 12, 71] (fun q _ i wx => ∃ j : Nat, j ≤ 5 ∧ i = .int .i64 j ∧ St w0.heap.size w0 wx (row 2 (.slice (some ⟨wo.heap.size + 1, 0, none⟩) 5 5) (iv S5) :: row 2 q (iv (trS 11 k S5 j)) :: (own2 u8 uo (tlK 11 S5 k) ++ (box 59 g [cv, .int .i64 pp, .int .u64 ss] :: box 26 w.heap.size [.int .i64 0, .slice none 0 0] :: L)))) (fun _ _ i _ => 5 - (intOf i).toNat)
            case atStart => exact ⟨0, by omega, rfl, hS2⟩
            case round =>
              clear hS2
              obtain ⟨j, hj, rfl, hS⟩ := hrel
              by_cases hjt : j < 5
              · have cj := (hS.rdI 0 rfl).cell j hjt
                obtain ⟨x, hx, hx0, hx9⟩ : ∃ x : Int, nth S5 j = x ∧ 0 ≤ x ∧ x ≤ 9 := ⟨_, rfl, by
                  have : ∀ j, j < 5 → 0 ≤ nth S5 j := by decide
                  exact this j hjt, by
                  have : ∀ j, j < 5 → nth S5 j ≤ 9 := by decide
                  exact this j hjt⟩
                have hstep : Hid (trS 11 k S5 (j + 1) = putL (trS 11 k S5 j) ((x + k) % 11)) := by rw [Hid, trS, hx]; rfl
                rw [hx] at cj
                have hrem : (x + (k : Int)).tmod 11 = (x + k) % 11 := Int.tmod_eq_emod_of_nonneg (by omega)
                have hlt9 := trS_len 11 k S5 j
                have HP := fun n W h => Lib.hid (l00PutX_c u10 (trS 11 k S5 j) n W h (by omega))
                have hrq := hS.rdI 1 rfl
                clear hx
                go_wp2_with fail
                try rw [hrem]
                refine (HP _ _ hrq).out.mono ?_
                rintro e w5 ⟨v5, rfl, h5⟩
                have hS6 := (hS.call h5).sub (L' := row 2 (.slice (some ⟨wo.heap.size + 1, 0, none⟩) 5 5) (iv S5) :: ((own2 u8 uo (tlK 11 S5 k) ++ (box 59 g [cv, .int .i64 pp, .int .u64 ss] :: box 26 w.heap.size [.int .i64 0, .slice none 0 0] :: L)) ++ [row 2 v5 (iv (putL (trS 11 k S5 j) ((x + k) % 11)))])) ((List.sublist_cons_self _ _).cons_cons _)
                have hS7 := hS6.perm (L' := row 2 (.slice (some ⟨wo.heap.size + 1, 0, none⟩) 5 5) (iv S5) :: row 2 v5 (iv (putL (trS 11 k S5 j) ((x + k) % 11))) :: (own2 u8 uo (tlK 11 S5 k) ++ (box 59 g [cv, .int .i64 pp, .int .u64 ss] :: box 26 w.heap.size [.int .i64 0, .slice none 0 0] :: L))) (by (try simp only [own2, List.cons_append, List.nil_append, List.append_nil]); classical exact List.perm_iff_count.2 (fun a => by simp only [List.cons_append, List.nil_append, List.append_nil, List.count_append, List.count_cons, List.count_nil] <;> omega))
                clear hS hS6 h5 hrq HP
                go_wp2_with fail
                go_roundw
                case rel => exact ⟨j + 1, by omega, by go_num, by rw [hstep.out]; exact hS7⟩
                case measure => simp [intOf]; omega
              · obtain rfl : j = 5 := by omega
                have hl9 := trS_len 11 k S5 5
                obtain ⟨la, lc, hle⟩ := (hS.rdI 1 rfl).sl.sh
                rw [iv_len] at hle
                subst hle
                have hEt : trB 11 S5 k = trS 11 k S5 5 := rfl
                rw [← hEt] at hS
                have hul := Lib.hid (show uo.length < 4294967296 by rw [hlo.out]; omega)
                rw [show trS 11 k S5 5 = trB 11 S5 k from rfl]
                go_wp2_with (at_builtin; refine appII hS 2 rfl hul.out rfl _ _ rfl rfl _ rfl rfl ?_; intro v8 w8 hS8)
                simp only [List.set_cons_succ] at hS8
                go_roundw
                case rel =>
                  refine ⟨k + 1, uo ++ [.slice la (trB 11 S5 k).length lc], by omega, by go_num, by simp [Hid, hlo.out], ?_⟩
                  rw [HT.out, own2, rowsI_app (by rw [hlo.out, Hlt.out])]
                  have h9 := hS8.sub (L' := row 2 (.slice la (trB 11 S5 k).length lc) (iv (trB 11 S5 k)) :: row 46 v8 (uo ++ [.slice la (trB 11 S5 k).length lc]) :: (rowsI uo (tlK 11 S5 k) ++ (box 59 g [cv, .int .i64 pp, .int .u64 ss] :: box 26 w.heap.size [.int .i64 0, .slice none 0 0] :: L))) (List.sublist_cons_self _ _)
                  exact h9.perm (by (try simp only [own2, List.cons_append, List.nil_append, List.append_nil]); classical exact List.perm_iff_count.2 (fun a => by simp only [List.cons_append, List.nil_append, List.append_nil, List.count_append, List.count_cons, List.count_nil] <;> omega))
                case measure => simp [intOf]; omega
          · obtain rfl : k = 11 := by omega
            have ro : RII wo u8 uo (tlK 11 S5 11) := rii2 hS (by rw [hlo.out, hlT])
            have HSt := Lib.hid (l10Sort_c u8 uo (tlK 11 S5 11) wo ro (by rw [hlT]; omega) (fun xs hx => by
              obtain ⟨j, _, rfl⟩ := List.mem_map.1 hx
              have := trS_len 11 j S5 5; exact Nat.le_trans this (by omega)))
            have hB := (hS.sub (List.sublist_append_right _ _))
            clear hS ro hlT
            go_wp2_with fail
            refine HSt.out.mono ?_
            clear HSt
            rintro e w5 ⟨v5, us5, rfl, hl5, h5⟩
            obtain ⟨ua, uc, hv5⟩ := (h5.rd 0 (e := 46) (v := v5) (us := us5) rfl).sl.sh
            rw [hl5, srtL_len] at hv5
            generalize hLn : (tlK 11 S5 11).length = Ln at *
            subst hv5
            have hB5 := hB.call h5
            have c0 := hB5.bcell 1 rfl 0 rfl
            have c1 := hB5.bcell 1 rfl 1 rfl
            have f0 := hB5.bfree 1 rfl
            have h6 := (hB5.bstore 1 rfl 0 (.int .i64 11)).bstore 1 rfl 1 (.slice ua Ln uc)
            have d0 := h6.bcell 1 rfl 0 rfl
            have d1 := h6.bcell 1 rfl 1 rfl
            clear hB h5 hB5 hLn
            go_wp2_with fail
            refine bodyPost_ret (v := .agg #[.int .i64 11, .slice ua Ln uc]) (by simp [results, Tryz.results82, go_sem, d0, d1]) rfl ?_
            have h7 := h6.perm (L' := box 59 g [cv, .int .i64 pp, .int .u64 ss] :: ((own2 (.slice ua Ln uc) us5 (srtL (tlK 11 S5 11)) ++ L) ++ [box 26 w.heap.size [.int .i64 11, .slice ua Ln uc]])) (by
              simp only [List.set_cons_succ, List.set_cons_zero, List.cons_append]
              exact (by (try simp only [own2, List.cons_append, List.nil_append, List.append_nil]); classical exact List.perm_iff_count.2 (fun a => by simp only [List.cons_append, List.nil_append, List.append_nil, List.count_append, List.count_cons, List.count_nil] <;> omega)))
            exact ⟨_, _, _, us5, by simp [knL], rfl, hl5, ⟨pp, ss, HP0.out.1, by have := HP0.out.2; omega, h7.sub ((List.sublist_append_left _ _).cons_cons _)⟩⟩
      · have f2 := eq_f e2
        obtain ⟨pp, ss, p0, p1, hS⟩ := h3
        have HP0 := Lib.hid (And.intro p0 p1)
        have hS := hS.sub (L' := box 59 g [cv, .int .i64 pp, .int .u64 ss] :: box 26 w.heap.size [.int .i64 0, .slice none 0 0] :: L) (((List.sublist_append_right _ _).cons_cons _).cons_cons _)
        have h1 := (); have h2 := ()
        clear p0 p1
        have hE := (hS.empII0).perm (L' := row 46 (.slice (some ⟨w2.heap.size, 0, none⟩) 0 0) [] :: (box 59 g [cv, .int .i64 pp, .int .u64 ss] :: box 26 w.heap.size [.int .i64 0, .slice none 0 0] :: L)) (by (try simp only [own2, List.cons_append, List.nil_append, List.append_nil]); classical exact List.perm_iff_count.2 (fun a => by simp only [List.cons_append, List.nil_append, List.append_nil, List.count_append, List.count_cons, List.count_nil] <;> omega))
        clear h1 h2 hS
        go_wp2_with fail
        go_loopw [13, 14, 15, 17] (fun o i _ _ wr => ∃ (k : Nat) (uo : List Value), k ≤ 13 ∧ i = .int .i64 k ∧ Hid (uo.length = k) ∧ St w0.heap.size w0 wr (own2 o uo (tlK 13 S4 k) ++ (box 59 g [cv, .int .i64 pp, .int .u64 ss] :: box 26 w.heap.size [.int .i64 0, .slice none 0 0] :: L))) (fun _ i _ _ _ => 13 - (intOf i).toNat)
        case atStart => exact ⟨0, [], by omega, rfl, rfl, hE⟩
        case round =>
          clear hE
          obtain ⟨k, uo, hk, rfl, hlo, hS⟩ := hrel
          obtain ⟨wo, rfl⟩ : ∃ wo : World, wo = wr := ⟨_, rfl⟩
          have hlT : (tlK 13 S4 k).length = k := by simp [tlK]
          by_cases hlt : k < 13
          · have hlti : (k : Int) < 13 := by omega
            have hS1 := (hS.new 2 #[] (by simp)).new 2 #[.int .i64 0, .int .i64 1, .int .i64 3, .int .i64 9] (by simp [maxLen])
            simp only [World.size_alloc, List.size_toArray, List.length_cons, List.length_nil, Nat.zero_add, Nat.reduceAdd] at hS1
            have hS2 : St w0.heap.size w0 _ (row 2 (.slice (some ⟨wo.heap.size + 1, 0, none⟩) 4 4) (iv S4) :: row 2 (.slice (some ⟨wo.heap.size, 0, none⟩) 0 0) (iv (trS 13 k S4 0)) :: (own2 u13 uo (tlK 13 S4 k) ++ (box 59 g [cv, .int .i64 pp, .int .u64 ss] :: box 26 w.heap.size [.int .i64 0, .slice none 0 0] :: L))) := hS1.perm (L' := row 2 (.slice (some ⟨wo.heap.size + 1, 0, none⟩) 4 4) [.int .i64 0, .int .i64 1, .int .i64 3, .int .i64 9] :: row 2 (.slice (some ⟨wo.heap.size, 0, none⟩) 0 0) [] :: (own2 u13 uo (tlK 13 S4 k) ++ (box 59 g [cv, .int .i64 pp, .int .u64 ss] :: box 26 w.heap.size [.int .i64 0, .slice none 0 0] :: L))) (by (try simp only [own2, List.cons_append, List.nil_append, List.append_nil]); classical exact List.perm_iff_count.2 (fun a => by simp only [List.cons_append, List.nil_append, List.append_nil, List.count_append, List.count_cons, List.count_nil] <;> omega))
            have hl5 := (hS2.rdI 0 rfl).len
            have hi5 := (hS2.rdI 0 rfl).ix
            have hn5 : (S4).length = 4 := rfl
            rw [hn5] at hl5 hi5
            have HT := Lib.hid (tlK_succ 13 S4 k)
            have Hlt := Lib.hid hlT
            clear hS1 hS hlT
            go_wp2_with fail
            go_loopw [15, 17, 97] (fun q _ i wx => ∃ j : Nat, j ≤ 4 ∧ i = .int .i64 j ∧ St w0.heap.size w0 wx (row 2 (.slice (some ⟨wo.heap.size + 1, 0, none⟩) 4 4) (iv S4) :: row 2 q (iv (trS 13 k S4 j)) :: (own2 u13 uo (tlK 13 S4 k) ++ (box 59 g [cv, .int .i64 pp, .int .u64 ss] :: box 26 w.heap.size [.int .i64 0, .slice none 0 0] :: L)))) (fun _ _ i _ => 4 - (intOf i).toNat)
            case atStart => exact ⟨0, by omega, rfl, hS2⟩
            case round =>
              clear hS2
              obtain ⟨j, hj, rfl, hS⟩ := hrel
              by_cases hjt : j < 4
              · have cj := (hS.rdI 0 rfl).cell j hjt
                obtain ⟨x, hx, hx0, hx9⟩ : ∃ x : Int, nth S4 j = x ∧ 0 ≤ x ∧ x ≤ 9 := ⟨_, rfl, by
                  have : ∀ j, j < 4 → 0 ≤ nth S4 j := by decide
                  exact this j hjt, by
                  have : ∀ j, j < 4 → nth S4 j ≤ 9 := by decide
                  exact this j hjt⟩
                have hstep : Hid (trS 13 k S4 (j + 1) = putL (trS 13 k S4 j) ((x + k) % 13)) := by rw [Hid, trS, hx]; rfl
                rw [hx] at cj
                have hrem : (x + (k : Int)).tmod 13 = (x + k) % 13 := Int.tmod_eq_emod_of_nonneg (by omega)
                have hlt9 := trS_len 13 k S4 j
                have HP := fun n W h => Lib.hid (l00PutX_c u15 (trS 13 k S4 j) n W h (by omega))
                have hrq := hS.rdI 1 rfl
                clear hx
                go_wp2_with fail
                try rw [hrem]
                refine (HP _ _ hrq).out.mono ?_
                rintro e w5 ⟨v5, rfl, h5⟩
                have hS6 := (hS.call h5).sub (L' := row 2 (.slice (some ⟨wo.heap.size + 1, 0, none⟩) 4 4) (iv S4) :: ((own2 u13 uo (tlK 13 S4 k) ++ (box 59 g [cv, .int .i64 pp, .int .u64 ss] :: box 26 w.heap.size [.int .i64 0, .slice none 0 0] :: L)) ++ [row 2 v5 (iv (putL (trS 13 k S4 j) ((x + k) % 13)))])) ((List.sublist_cons_self _ _).cons_cons _)
                have hS7 := hS6.perm (L' := row 2 (.slice (some ⟨wo.heap.size + 1, 0, none⟩) 4 4) (iv S4) :: row 2 v5 (iv (putL (trS 13 k S4 j) ((x + k) % 13))) :: (own2 u13 uo (tlK 13 S4 k) ++ (box 59 g [cv, .int .i64 pp, .int .u64 ss] :: box 26 w.heap.size [.int .i64 0, .slice none 0 0] :: L))) (by (try simp only [own2, List.cons_append, List.nil_append, List.append_nil]); classical exact List.perm_iff_count.2 (fun a => by simp only [List.cons_append, List.nil_append, List.append_nil, List.count_append, List.count_cons, List.count_nil] <;> omega))
                clear hS hS6 h5 hrq HP
                go_wp2_with fail
                go_roundw
                case rel => exact ⟨j + 1, by omega, by go_num, by rw [hstep.out]; exact hS7⟩
                case measure => simp [intOf]; omega
              · obtain rfl : j = 4 := by omega
                have hl9 := trS_len 13 k S4 4
                obtain ⟨la, lc, hle⟩ := (hS.rdI 1 rfl).sl.sh
                rw [iv_len] at hle
                subst hle
                have hEt : trB 13 S4 k = trS 13 k S4 4 := rfl
                rw [← hEt] at hS
                have hul := Lib.hid (show uo.length < 4294967296 by rw [hlo.out]; omega)
                rw [show trS 13 k S4 4 = trB 13 S4 k from rfl]
                go_wp2_with (at_builtin; refine appII hS 2 rfl hul.out rfl _ _ rfl rfl _ rfl rfl ?_; intro v8 w8 hS8)
                simp only [List.set_cons_succ] at hS8
                go_roundw
                case rel =>
                  refine ⟨k + 1, uo ++ [.slice la (trB 13 S4 k).length lc], by omega, by go_num, by simp [Hid, hlo.out], ?_⟩
                  rw [HT.out, own2, rowsI_app (by rw [hlo.out, Hlt.out])]
                  have h9 := hS8.sub (L' := row 2 (.slice la (trB 13 S4 k).length lc) (iv (trB 13 S4 k)) :: row 46 v8 (uo ++ [.slice la (trB 13 S4 k).length lc]) :: (rowsI uo (tlK 13 S4 k) ++ (box 59 g [cv, .int .i64 pp, .int .u64 ss] :: box 26 w.heap.size [.int .i64 0, .slice none 0 0] :: L))) (List.sublist_cons_self _ _)
                  exact h9.perm (by (try simp only [own2, List.cons_append, List.nil_append, List.append_nil]); classical exact List.perm_iff_count.2 (fun a => by simp only [List.cons_append, List.nil_append, List.append_nil, List.count_append, List.count_cons, List.count_nil] <;> omega))
                case measure => simp [intOf]; omega
          · obtain rfl : k = 13 := by omega
            have ro : RII wo u13 uo (tlK 13 S4 13) := rii2 hS (by rw [hlo.out, hlT])
            have HSt := Lib.hid (l10Sort_c u13 uo (tlK 13 S4 13) wo ro (by rw [hlT]; omega) (fun xs hx => by
              obtain ⟨j, _, rfl⟩ := List.mem_map.1 hx
              have := trS_len 13 j S4 4; exact Nat.le_trans this (by omega)))
            have hB := (hS.sub (List.sublist_append_right _ _))
            clear hS ro hlT
            go_wp2_with fail
            refine HSt.out.mono ?_
            clear HSt
            rintro e w5 ⟨v5, us5, rfl, hl5, h5⟩
            obtain ⟨ua, uc, hv5⟩ := (h5.rd 0 (e := 46) (v := v5) (us := us5) rfl).sl.sh
            rw [hl5, srtL_len] at hv5
            generalize hLn : (tlK 13 S4 13).length = Ln at *
            subst hv5
            have hB5 := hB.call h5
            have c0 := hB5.bcell 1 rfl 0 rfl
            have c1 := hB5.bcell 1 rfl 1 rfl
            have f0 := hB5.bfree 1 rfl
            have h6 := (hB5.bstore 1 rfl 0 (.int .i64 13)).bstore 1 rfl 1 (.slice ua Ln uc)
            have d0 := h6.bcell 1 rfl 0 rfl
            have d1 := h6.bcell 1 rfl 1 rfl
            clear hB h5 hB5 hLn
            go_wp2_with fail
            refine bodyPost_ret (v := .agg #[.int .i64 13, .slice ua Ln uc]) (by simp [results, Tryz.results82, go_sem, d0, d1]) rfl ?_
            have h7 := h6.perm (L' := box 59 g [cv, .int .i64 pp, .int .u64 ss] :: ((own2 (.slice ua Ln uc) us5 (srtL (tlK 13 S4 13)) ++ L) ++ [box 26 w.heap.size [.int .i64 13, .slice ua Ln uc]])) (by
              simp only [List.set_cons_succ, List.set_cons_zero, List.cons_append]
              exact (by (try simp only [own2, List.cons_append, List.nil_append, List.append_nil]); classical exact List.perm_iff_count.2 (fun a => by simp only [List.cons_append, List.nil_append, List.append_nil, List.count_append, List.count_cons, List.count_nil] <;> omega)))
            exact ⟨_, _, _, us5, by simp [knL], rfl, hl5, ⟨pp, ss, HP0.out.1, by have := HP0.out.2; omega, h7.sub ((List.sublist_append_left _ _).cons_cons _)⟩⟩
end Go.Proofs.YtljemlfocajhnaaGreat
end

section
/- Plain: complements, derived and residual designs of the known designs. -/
namespace Go.Proofs.YtljemlfocajhnaaGreat
set_option linter.unusedSimpArgs false
set_option linter.unusedVariables false

/-- what holds of the derived design or the residual one, on the set S of points -/
def chkR (A : List (List Int)) (k : Nat) (S : List Int) (q : List Int) : Bool :=
  decide (0 < S.length) && decide (S.length ≤ 1000) && ((List.range A.length).all fun j => decide (j = k) || decide (0 < (rsB (xat A j) S).length)) &&
  dOk S.length (srtL (resR A k S A.length)) && prmB S.length (srtL (resR A k S A.length)) && decide (prmV S.length (srtL (resR A k S A.length)) = q)
def chkC1 (P : Nat) (A : List (List Int)) : Bool := dOk P A && prmB P A && A.all (fun b => b.length != P) && decide (0 < A.length)
def chkC2 (P : Nat) (A X : List (List Int)) : Bool := dOk P X && X.all (fun b => b.length != P) && decide (srtL (cplL P X) = A)
/-- the numbers of blocks on two points of a complement -/
def lamC (A : List (List Int)) (q : List Int) : Int := A.length - 2 * nth q 2 + nth q 4
def chkC3 (P : Nat) (A X : List (List Int)) (q : List Int) : Bool :=
  !(decide (1 < (P : Int) - nth q 3) && decide (0 < lamC A q)) || (prmB P X && decide (prmV P X = [(P : Int), (A.length : Int), A.length - nth q 2, P - nth q 3, lamC A q]))
def chkC4 (P : Nat) (A : List (List Int)) (q : List Int) : Bool :=
  decide (A.length ≠ P) || decide (nth q 4 < 2) || decide (nth q 3 - nth q 4 < 2) ||
  ((List.range A.length).all fun k => chkR A k (xat A k) [nth q 3, P - 1, nth q 3 - 1, nth q 4, nth q 4 - 1] && chkR A k (cplB P (xat A k)) [P - nth q 3, P - 1, nth q 3, nth q 3 - nth q 4, nth q 4])
def chkC (d : Nat × List (List Int)) : Bool :=
  chkC1 d.1 d.2 && chkC2 d.1 d.2 (srtL (cplL d.1 d.2)) && chkC3 d.1 d.2 (srtL (cplL d.1 d.2)) (prmV d.1 d.2) && chkC4 d.1 d.2 (prmV d.1 d.2)
theorem kn_chk : ∀ d ∈ knL, chkC d = true := by decide +kernel
end Go.Proofs.YtljemlfocajhnaaGreat
end

section
/- Walks: designs that the reference draws. -/
namespace Go.Proofs.YtljemlfocajhnaaGreat
set_option linter.unusedSimpArgs false
set_option linter.unusedVariables false
open Go.RowKit
attribute [local go_sem ↓] Go.wp_at_zero Go.wp_at_succ

theorem putL_inc : ∀ {xs : List Int} {l n x : Int}, incB l n xs = true → l < x → x < n → incB l n (putL xs x) = true
  | [], l, n, x, _, h1, h2 => by rw [putL, incB, if_neg (by omega)]; rfl
  | a :: r, l, n, x, h, h1, h2 => by
    rw [incB] at h
    by_cases hc : a ≤ l ∨ n ≤ a
    · rw [if_pos hc] at h; cases h
    · rw [if_neg hc] at h
      rw [putL]
      by_cases h3 : x < a
      · rw [if_pos h3, incB, if_neg (by omega), incB, if_neg (by omega)]; exact h
      · rw [if_neg h3]
        by_cases h4 : a = x
        · rw [if_pos h4, incB, if_neg hc]; exact h
        · rw [if_neg h4, incB, if_neg hc]; exact putL_inc h (by omega) h2
theorem putL_pos (xs : List Int) (x : Int) : 0 < (putL xs x).length := by
  cases xs with
  | nil => simp [putL]
  | cons a r => rw [putL]; split <;> (try split) <;> simp
def Blk (P : Int) (r : List Int) : Prop := 0 < r.length ∧ r.length ≤ 10 ∧ incB (-1) P r = true
/-- blocks of its own -/
def MakesBl (w0 : World) (cv : Value) (g K : Nat) (L : List Ent) (P : Int) (e : Ending) (w' : World) : Prop := ∃ (v : Value) (us : List Value) (R : List (List Int)), e = .returned v ∧ us.length = R.length ∧ R.length ≤ 8 ∧ (∀ r ∈ R, Blk P r) ∧ Src w0 w' cv g K (own2 v us R ++ L)
set_option maxHeartbeats 8000000 in
set_option maxRecDepth 100000 in
theorem l10DrawBlocks_c (w0 w : World) (cv : Value) (bs : List UInt8) (g K : Nat) (L : List Ent) (P : Int) (hb : RdB w0 cv bs) (h : Src w0 w cv g K L) (hK : K < 100000000) (hP : 1 ≤ P ∧ P ≤ 9) :
    Calls Tryz.prog 83 #[.pointer (some ⟨g, 0, none⟩), .int .i64 P] w (MakesBl w0 cv g (K + 110) L P) := by
  have h0 := h.empII
  clear h
  go_enter Tryz.func83, Tryz.ntmps83
  go_wp2_with fail
  refine (pick_c w0 _ cv bs g _ _ 9 hb h0 (by omega)).mono ?_
  rintro e w1 ⟨n, n0, n1, rfl, h1⟩
  obtain ⟨c, rfl⟩ := Int.eq_ofNat_of_zero_le n0
  have hc : c ≤ 8 := by omega
  clear h0 n0 n1
  go_wp2_with fail
  go_loopw [5, 6, 7, 8] (fun o i _ _ wr => ∃ (m : Nat) (uo : List Value) (R : List (List Int)), m ≤ 8 ∧ i = .int .i64 m ∧ Hid (R.length + m ≤ 8 ∧ uo.length = R.length ∧ ∀ r ∈ R, Blk P r) ∧ Src w0 wr cv g (K + 100 - 12 * m) (own2 o uo R ++ L)) (fun _ i _ _ _ => (intOf i).toNat)
  case atStart => exact ⟨c, [], [], hc, rfl, ⟨by simpa using hc, rfl, fun r hr => by cases hr⟩, h1.mono (by omega)⟩
  case round =>
    clear h1
    obtain ⟨m, uo, R, hm, rfl, hI, hS⟩ := hrel
    by_cases hm0 : 0 < m
    · go_wp2_with fail
      refine (pick_c w0 _ cv bs g _ _ P hb hS (by omega)).mono ?_
      rintro e w2 ⟨y, y0, y1, rfl, h2⟩
      have h3 : Src w0 (w2.alloc (.cells #[.int .i64 y] 2)) cv g _ (row 2 (.slice (some ⟨w2.heap.size, 0, none⟩) 1 1) (iv [y]) :: (own2 u5 uo R ++ L)) := h2.lit [y] (by simp)
      have hy0 : incB (-1) P [y] = true := by rw [incB, if_neg (by omega)]; rfl
      have Hy0 := Lib.hid hy0
      clear hS h2 hy0 y0 y1
      go_wp2_with fail
      refine (pick_c w0 _ cv bs g _ _ 4 hb h3 (by omega)).mono ?_
      rintro e w3 ⟨k, k0, k1, rfl, h4⟩
      obtain ⟨kk, rfl⟩ := Int.eq_ofNat_of_zero_le k0
      have hkk : kk ≤ 3 := by omega
      clear h3 k0 k1
      go_wp2_with fail
      go_loopw [7, 8] (fun q i wx => ∃ (t : Nat) (xs : List Int), t ≤ 3 ∧ i = .int .i64 t ∧ Hid (0 < xs.length ∧ xs.length + t ≤ 4 ∧ incB (-1) P xs = true) ∧ Src w0 wx cv g (K + 100 - 12 * m + 10 - 2 * t) (row 2 q (iv xs) :: (own2 u5 uo R ++ L))) (fun _ i _ => (intOf i).toNat)
      case atStart => exact ⟨kk, [y], hkk, rfl, ⟨by simp, by simp; omega, Hy0.out⟩, h4.mono (by omega)⟩
      case round =>
        clear h4
        obtain ⟨t, xs, ht, rfl, hx, hS⟩ := hrel
        by_cases ht0 : 0 < t
        · go_wp2_with fail
          refine (pick_c w0 _ cv bs g _ _ P hb hS (by omega)).mono ?_
          rintro e w4 ⟨z, z0, z1, rfl, h5⟩
          have hrx := h5.rdI 0 rfl
          have hxl := hx.out.2.1
          have hnew := Lib.hid (And.intro (putL_pos xs z) (And.intro (putL_len xs z) (putL_inc (x := z) hx.out.2.2 (by omega) (by omega))))
          clear hS z0 z1
          go_wp2_with fail
          refine (l00PutX_c u7 xs z _ hrx (by omega)).mono ?_
          rintro e w5 ⟨v5, rfl, h6⟩
          have h7 := ((h5.call h6).sub (L' := (own2 u5 uo R ++ L) ++ [row 2 v5 (iv (putL xs z))]) (List.sublist_cons_self _ _)).perm (L' := row 2 v5 (iv (putL xs z)) :: (own2 u5 uo R ++ L)) List.perm_append_comm
          clear h5 h6 hrx hxl
          go_wp2_with fail
          go_roundw
          case rel => exact ⟨t - 1, putL xs z, by omega, by go_num, ⟨hnew.out.1, by have := hnew.out.2.1; have := hx.out.2.1; omega, hnew.out.2.2⟩, h7.mono (by omega)⟩
          case measure => simp [intOf]; omega
        · obtain ⟨pp, ss, p0, p1, hT⟩ := hS
          have HP := Lib.hid (And.intro p0 p1)
          obtain ⟨la, lc, hle⟩ := (hT.rdI 1 rfl).sl.sh
          rw [iv_len] at hle
          subst hle
          have hul := Lib.hid (show uo.length < 4294967296 by rw [hI.out.2.1]; have := hI.out.1; omega)
          clear p0 p1
          go_wp2_with (at_builtin; refine appII hT 2 rfl hul.out rfl _ _ rfl rfl _ rfl rfl ?_; intro v8 w8 hS8)
          simp only [List.set_cons_succ] at hS8
          go_roundw
          case rel =>
            refine ⟨m - 1, uo ++ [.slice la xs.length lc], R ++ [xs], by omega, by go_num, ⟨by simp; have := hI.out.1; omega, by simp [hI.out.2.1], fun r hr => ?_⟩, pp, ss, HP.out.1, by have := HP.out.2; omega, ?_⟩
            · rcases List.mem_append.1 hr with hr | hr
              · exact hI.out.2.2 r hr
              · obtain rfl := List.mem_singleton.1 hr
                exact ⟨hx.out.1, by have := hx.out.2.1; omega, hx.out.2.2⟩
            · rw [own2, rowsI_app hI.out.2.1]
              have h9 : St w0.heap.size w0 w8 (box 59 g [cv, .int .i64 pp, .int .u64 ss] :: row 2 (.slice la xs.length lc) (iv xs) :: row 46 v8 (uo ++ [.slice la xs.length lc]) :: (rowsI uo R ++ L)) := hS8
              exact h9.perm (by (try simp only [own2, List.cons_append, List.nil_append, List.append_nil]); classical exact List.perm_iff_count.2 (fun a => by simp only [List.cons_append, List.nil_append, List.append_nil, List.count_append, List.count_cons, List.count_nil] <;> omega))
          case measure => simp [intOf]; omega
    · obtain rfl : m = 0 := by omega
      go_wp2_with fail
      go_ret
      exact ⟨_, uo, R, rfl, hI.out.2.1, by have := hI.out.1; omega, hI.out.2.2, hS.mono (by omega)⟩
/-- a design of its own -/
def MakesDd (w0 : World) (cv : Value) (g K : Nat) (L : List Ent) (e : Ending) (w' : World) : Prop := ∃ (P : Nat) (A : List (List Int)) (v : Value) (us : List Value), dOk P A = true ∧ e = .returned (dv P v) ∧ us.length = A.length ∧ Src w0 w' cv g K (own2 v us A ++ L)
set_option maxHeartbeats 8000000 in
set_option maxRecDepth 100000 in
theorem l10Draw_c (w0 w : World) (cv : Value) (bs : List UInt8) (g K : Nat) (L : List Ent) (hb : RdB w0 cv bs) (h : Src w0 w cv g K L) (hK : K < 10000000) :
    Calls Tryz.prog 51 #[.pointer (some ⟨g, 0, none⟩)] w (MakesDd w0 cv g (K + 200) L) := by
  have h0 := h.newboxF 26 #[.int .i64 0, .slice none 0 0]
  clear h
  go_enter Tryz.func51, Tryz.ntmps51
  go_wp2_with fail
  refine (one_c w0 _ cv bs g _ _ 2 hb h0 (by omega)).mono ?_
  rintro e w1 ⟨b, rfl, h1⟩
  clear h0
  cases b
  · go_wp2_with fail
    refine (pick_c w0 _ cv bs g _ _ 9 hb h1 (by omega)).mono ?_
    rintro e w2 ⟨x, x0, x1, rfl, h2⟩
    obtain ⟨P, hP⟩ : ∃ P : Nat, 1 + x = P := ⟨(1 + x).toNat, by omega⟩
    have hP1 : 1 ≤ (P : Int) ∧ (P : Int) ≤ 9 := by omega
    clear h1
    go_wp2_with fail
    try rw [hP]
    clear hP x0 x1
    refine (l10DrawBlocks_c w0 _ cv bs g _ _ P hb h2 (by omega) hP1).mono ?_
    rintro e w3 ⟨v3, us3, R, rfl, hl3, hR8, hblk, h3⟩
    have hrr := h3.riiS (v := v3) (us := us3) (A := R) (List.sublist_append_left _ _) hl3
    have HS := Lib.hid (l10Sort_c v3 us3 R w3 hrr (by omega) (fun xs hx => by have := (hblk xs hx).2.1; omega))
    have HO := Lib.hid (DOk.ok (DOk.mk' (P := P) (A := R) (by omega) (by omega) (by omega) (fun b hb' => ⟨(hblk b hb').1, (hblk b hb').2.2⟩)))
    clear h2 hrr hblk hR8
    go_wp2_with fail
    refine HS.out.mono ?_
    clear HS
    rintro e w5 ⟨v5, us5, rfl, hl5, h5⟩
    obtain ⟨ua, uc, hv5⟩ := (h5.rd 0 (e := 46) (v := v5) (us := us5) rfl).sl.sh
    rw [hl5] at hv5
    generalize srtL R = S at *
    subst hv5
    have h6 := ((h3.call h5).perm (L' := box 26 w.heap.size [.int .i64 0, .slice none 0 0] :: ((own2 (.slice ua S.length uc) us5 S ++ L) ++ own2 v3 us3 R)) (by (try simp only [own2, List.cons_append, List.nil_append, List.append_nil]); classical exact List.perm_iff_count.2 (fun a => by simp only [List.cons_append, List.nil_append, List.append_nil, List.count_append, List.count_cons, List.count_nil] <;> omega))).sub (L' := box 26 w.heap.size [.int .i64 0, .slice none 0 0] :: (own2 (.slice ua S.length uc) us5 S ++ L)) ((List.sublist_append_left _ _).cons_cons _)
    have c0 := h6.box 0 (e := 26) rfl 0 rfl
    have c1 := h6.box 0 (e := 26) rfl 1 rfl
    have f0 := h6.bfree 0 (e := 26) rfl
    have h7 := (h6.bstore 0 (e := 26) rfl 0 (.int .i64 P)).bstore 0 (e := 26) rfl 1 (.slice ua S.length uc)
    simp only [List.set_cons_zero, List.set_cons_succ] at h7
    have d0 := h7.box 0 (e := 26) rfl 0 rfl
    have d1 := h7.box 0 (e := 26) rfl 1 rfl
    clear h3 h5 h6
    go_wp2_with fail
    refine bodyPost_ret (v := .agg #[.int .i64 P, .slice ua S.length uc]) (by simp [results, Tryz.results51, go_sem, d0, d1]) rfl ?_
    exact ⟨P, S, _, us5, HO.out, rfl, hl5, (h7.sub (List.sublist_cons_self _ _)).mono (by omega)⟩
  · go_wp2_with fail
    refine (l10Known_c w0 _ cv bs g _ _ hb h1 (by omega)).mono ?_
    rintro e w2 ⟨P, A, v, us, hmem, rfl, hl, h2⟩
    have HO := Lib.hid (show dOk P A = true by
      have := kn_chk _ hmem
      unfold chkC chkC1 at this
      simp only [Bool.and_eq_true] at this
      exact this.1.1.1.1.1.1)
    have h3 := h2.perm (L' := box 26 w.heap.size [.int .i64 0, .slice none 0 0] :: (own2 v us A ++ L)) (by (try simp only [own2, List.cons_append, List.nil_append, List.append_nil]); classical exact List.perm_iff_count.2 (fun a => by simp only [List.cons_append, List.nil_append, List.append_nil, List.count_append, List.count_cons, List.count_nil] <;> omega))
    obtain ⟨ra, rc, hre⟩ := (h3.rd 1 (e := 46) (v := v) (us := us) rfl).sl.sh
    rw [hl] at hre
    subst hre
    have c0 := h3.box 0 (e := 26) rfl 0 rfl
    have c1 := h3.box 0 (e := 26) rfl 1 rfl
    have f0 := h3.bfree 0 (e := 26) rfl
    have h7 := (h3.bstore 0 (e := 26) rfl 0 (.int .i64 P)).bstore 0 (e := 26) rfl 1 (.slice ra A.length rc)
    simp only [List.set_cons_zero, List.set_cons_succ] at h7
    have d0 := h7.box 0 (e := 26) rfl 0 rfl
    have d1 := h7.box 0 (e := 26) rfl 1 rfl
    clear h1 h2 h3 hmem
    unfold dv
    go_wp2_with fail
    refine bodyPost_ret (v := .agg #[.int .i64 P, .slice ra A.length rc]) (by simp [results, Tryz.results51, go_sem, d0, d1]) rfl ?_
    exact ⟨P, A, _, us, HO.out, rfl, hl, (h7.sub (List.sublist_cons_self _ _)).mono (by omega)⟩
end Go.Proofs.YtljemlfocajhnaaGreat
end

section
/- Walks: images of designs under drawn permutations. -/
namespace Go.Proofs.YtljemlfocajhnaaGreat
set_option linter.unusedSimpArgs false
set_option linter.unusedVariables false
open Go.RowKit
attribute [local go_sem ↓] Go.wp_at_zero Go.wp_at_succ

/-- the images of the first points of a set -/
def imgS (p ss : List Int) : Nat → List Int
  | 0 => []
  | k + 1 => putL (imgS p ss k) (nth p (nth ss k).toNat)
def imgB (p ss : List Int) : List Int := imgS p ss ss.length
theorem imgS_len (p ss : List Int) : ∀ k, (imgS p ss k).length ≤ k
  | 0 => Nat.le_refl _
  | k + 1 => by rw [imgS]; have := putL_len (imgS p ss k) (nth p (nth ss k).toNat); have := imgS_len p ss k; omega
set_option maxHeartbeats 2000000 in
set_option maxRecDepth 100000 in
theorem l04Image_c (vp vs : Value) (p ss : List Int) (w : World) (hp : RdI w vp p) (hs : RdI w vs ss) (hb : ∀ x ∈ ss, 0 ≤ x ∧ x < p.length) (hl : ss.length ≤ 1000) :
    Calls Tryz.prog 62 #[vp, vs] w (MakesI w (imgB p ss)) := by
  have hln := hs.len
  have hix := hs.ix
  have hxp := hp.ixe
  have Hb := Lib.hid hb
  have h0 := St.emp0 (w := w)
  clear hb
  go_enter Tryz.func62, Tryz.ntmps62
  go_wp2_with fail
  go_loopw [5, 6] (fun o i wr => ∃ k : Nat, k ≤ ss.length ∧ i = .int .i64 k ∧ St w.heap.size w wr [row 2 o (iv (imgS p ss k))]) (fun _ i _ => ss.length - (intOf i).toNat)
  case atStart => exact ⟨0, by omega, rfl, h0⟩
  case round =>
    clear h0
    obtain ⟨k, hk, rfl, hS⟩ := hrel
    by_cases hlt : k < ss.length
    · have ck := (hS.oldI hs).cell k hlt
      have hbk := Hb.out _ (nth_mem hlt)
      obtain ⟨x, hx⟩ := Int.eq_ofNat_of_zero_le hbk.1
      rw [hx] at ck
      have hxl : x < p.length := by omega
      have cx := (hS.oldI hp).cell x hxl
      have xx := hxp (x : Int) x rfl hxl
      have hst : Hid (imgS p ss (k + 1) = putL (imgS p ss k) (nth p x)) := by rw [Hid, imgS, hx]; rfl
      have hil := imgS_len p ss k
      have hrx := hS.rdI 0 rfl
      clear hx hbk
      go_wp2_with fail
      refine (l00PutX_c u5 (imgS p ss k) (nth p x) _ hrx (by omega)).mono ?_
      rintro e w5 ⟨v5, rfl, h6⟩
      have h7 := (hS.call h6).sub (L' := [row 2 v5 (iv (putL (imgS p ss k) (nth p x)))]) (List.sublist_append_right _ _)
      clear hS h6 hrx
      go_wp2_with fail
      go_roundw
      case rel => exact ⟨k + 1, by omega, by go_num, by rw [hst.out]; exact h7⟩
      case measure => simp [intOf]; omega
    · obtain rfl : k = ss.length := by omega
      go_wp2_with fail
      go_ret
      exact ⟨_, rfl, hS⟩
def imgL (p : List Int) (A : List (List Int)) : List (List Int) := A.map (imgB p)
theorem imgL_take {p : List Int} {A : List (List Int)} {k : Nat} (h : k < A.length) : imgL p (A.take (k + 1)) = imgL p (A.take k) ++ [imgB p (xat A k)] := by
  rw [imgL, take_xat h, List.map_append]; rfl
/-- a design of its own, by value -/
def MakesDV (w : World) (P : Int) (A : List (List Int)) (e : Ending) (w' : World) : Prop := ∃ v us, e = .returned (dv P v) ∧ us.length = A.length ∧ St w.heap.size w w' (own2 v us A)
set_option maxHeartbeats 4000000 in
set_option maxRecDepth 100000 in
theorem l10Image_c (P : Nat) (g : Nat) (v : Value) (us : List Value) (A : List (List Int)) (vp : Value) (p : List Int) (w : World) (hv : RII w v us A) (hbd : BoxD w g P v) (hp : RdI w vp p) (hD : dOk P A = true) (hpl : p.length = P) :
    Calls Tryz.prog 35 #[.pointer (some ⟨g, 0, none⟩), vp] w (MakesDV w P (srtL (imgL p A))) := by
  have hDk := dOk_t hD
  have hDl := hDk.len
  have hPl := hDk.le
  have HI := Lib.hid (fun k (hk : k < A.length) => (show (∀ x ∈ xat A k, 0 ≤ x ∧ x < p.length) ∧ (xat A k).length ≤ 32 from by
    have hi := hDk.inc _ (xat_mem hk)
    refine ⟨fun x hx => by have := incB_gt hi x hx; omega, ?_⟩
    have := inc_len hi (by omega); omega))
  clear hDk hD
  have hln := hv.len
  have hixe := hv.ixe
  have hS0 := (St.refl w).newboxF 26 #[.int .i64 0, .slice none 0 0]
  have hS1 : St w.heap.size w ((w.alloc (.cells #[.int .i64 0, .slice none 0 0] 26)).alloc (.cells #[] 46)) (box 26 w.heap.size [.int .i64 0, .slice none 0 0] :: own2 (.slice (some ⟨w.heap.size + 1, 0, none⟩) 0 0) [] (imgL p (A.take 0))) := by
    have := hS0.new 46 #[] (by simp)
    simp only [World.size_alloc, List.size_toArray, List.length_nil] at this
    exact this
  clear hS0
  go_enter Tryz.func35, Tryz.ntmps35
  go_wp2_with fail
  go_loopw [5, 6] (fun o i wr => ∃ (k : Nat) (uo : List Value), k ≤ A.length ∧ i = .int .i64 k ∧ Hid (uo.length = (imgL p (A.take k)).length) ∧ St w.heap.size w wr (box 26 w.heap.size [.int .i64 0, .slice none 0 0] :: own2 o uo (imgL p (A.take k)))) (fun _ i _ => A.length - (intOf i).toNat)
  case atStart => exact ⟨0, [], by omega, rfl, rfl, hS1⟩
  case round =>
    clear hS1
    obtain ⟨k, uo, hk, rfl, hl, hS⟩ := hrel
    have b0 := (hS.oldBoxD hbd).1
    have b1 := (hS.oldBoxD hbd).2
    by_cases hlt : k < A.length
    · have ck := (hS.oldII hv).cell k hlt
      have xk := hixe (k : Int) k rfl hlt
      have rk := Lib.hid ((hS.oldII hv).row k hlt)
      have rp := Lib.hid (hS.oldI hp)
      have Hk := Lib.hid (imgL_take (p := p) hlt)
      have hlk : Hid ((imgL p (A.take k)).length = k) := by unfold Hid imgL; rw [List.length_map, List.length_take]; omega
      obtain ⟨hi1, hi2⟩ := HI.out k hlt
      have hcall := Lib.hid (l04Image_c _ _ _ _ _ rp.out rk.out hi1 (by omega))
      clear hi1 hi2
      go_wp2_with fail
      refine hcall.out.mono ?_
      rintro e w5 ⟨v5, rfl, h5⟩
      have hsl := (h5.rdI (xs := imgB p (xat A k)) 0 rfl).sl
      have hone := Lib.hid hsl.one
      obtain ⟨ua, uc, hle⟩ := hsl.sh
      rw [iv_len] at hle
      subst hle
      have hS5 := hS.call h5
      simp only [List.cons_append] at hS5
      clear hsl hS h5 hcall
      go_wp2_with (at_builtin; refine appII hS5 1 rfl (by rw [hl.out, hlk.out]; omega) rfl _ _ rfl rfl _ hone.out rfl ?_; intro v6 w6 hS6)
      go_roundw
      case rel =>
        refine ⟨k + 1, uo ++ [.slice ua (imgB p (xat A k)).length uc], by omega, by go_num, by rw [Hid, Hk.out]; simp [hl.out], ?_⟩
        rw [Hk.out, own2, rowsI_app hl.out]
        have h9 : St w.heap.size w w6 (box 26 w.heap.size [.int .i64 0, .slice none 0 0] :: row 46 v6 (uo ++ [.slice ua (imgB p (xat A k)).length uc]) :: (rowsI uo (imgL p (A.take k)) ++ [row 2 (.slice ua (imgB p (xat A k)).length uc) (iv (imgB p (xat A k)))])) := hS6
        exact h9
      case measure => simp [intOf]; omega
    · obtain rfl : k = A.length := by omega
      rw [List.take_length] at hS hl
      have hll : (imgL p A).length = A.length := by simp [imgL]
      have ro := (hS.sub (List.sublist_cons_self _ _)).rii hl.out
      have HSt := Lib.hid (l10Sort_c u5 uo (imgL p A) wr ro (by omega) (fun xs hx => by
        obtain ⟨b, hb, rfl⟩ := List.mem_map.1 hx
        obtain ⟨j, hj, rfl⟩ := List.getElem_of_mem hb
        have := (HI.out j hj).2
        rw [xat_eq hj] at this
        exact Nat.le_trans (imgS_len p _ _) (by omega)))
      have b0 := (hS.oldBoxD hbd).1
      have hSd := hS.drew
      clear ro
      go_wp2_with fail
      refine regionG (fun w' => w'.cell? ⟨g, 0, none⟩ = some (.int .i64 P)) 7 (by kernel_rfl) (cell_dr b0) (fun hHeld => ?_)
      refine takeP (i := 0) (v := ?_) rfl (by kernel_rfl) (fun _ _ _ h => h) (by rfl) ?_ (by assumption) ?_
      case refine_2 => (intro w'; go_simp; first | done | with_reducible rfl)
      try simp only [Act.put, List.setIfInBounds_toArray, List.set_cons_zero, List.set_cons_succ]
      refine takeP (i := 1) (v := ?_) rfl (by kernel_rfl) (fun _ _ _ h => h) (by rfl) ?_ (by assumption) ?_
      case refine_2 => (intro w'; go_simp; first | done | with_reducible rfl)
      try simp only [Act.put, List.setIfInBounds_toArray, List.set_cons_zero, List.set_cons_succ]
      refine takeP (i := 2) (v := ?_) rfl (by kernel_rfl) (fun _ _ _ h => h) (by rfl) ?_ (by assumption) ?_
      case refine_2 => (intro w'; go_simp; first | done | with_reducible rfl)
      try simp only [Act.put, List.setIfInBounds_toArray, List.set_cons_zero, List.set_cons_succ]
      refine takeH (i := 3) [6] (v := ?_) rfl (by kernel_rfl) (fun _ _ _ h => h) (by rfl) ?_ (by assumption) ?_
      case refine_2 => (intro w' hSw; (try dsimp only at hSw); go_simp; first | done | with_reducible rfl)
      try simp only [Act.put, List.setIfInBounds_toArray, List.set_cons_zero, List.set_cons_succ]
      refine takeP (i := 4) (v := ?_) rfl (by kernel_rfl) (fun _ _ _ h => h) (by rfl) ?_ (by assumption) ?_
      case refine_2 => (intro w'; go_simp; first | done | with_reducible rfl)
      try simp only [Act.put, List.setIfInBounds_toArray, List.set_cons_zero, List.set_cons_succ]
      refine readyG (rs := [5]) (by kernel_rfl) (by simp) ?_
      refine AllG.cons rfl (fun K hK => ?_) AllG.nil
      go_simp
      have HSt2 := Lib.hid (l10Sort_c u5 uo (imgL p A) _ ((hSd.sub (List.sublist_cons_self _ _)).rii hl.out) (by omega) (fun xs hx => by
        obtain ⟨b, hb, rfl⟩ := List.mem_map.1 hx
        obtain ⟨j, hj, rfl⟩ := List.getElem_of_mem hb
        have := (HI.out j hj).2
        rw [xat_eq hj] at this
        exact Nat.le_trans (imgS_len p _ _) (by omega)))
      refine HSt2.out.mono ?_
      clear HSt2 HSt
      rintro e w5 ⟨v5, us5, rfl, hl5, h5⟩
      obtain ⟨ua, uc, hv5⟩ := (h5.rd 0 (e := 46) (v := v5) (us := us5) rfl).sl.sh
      rw [hl5, srtL_len, hll] at hv5
      subst hv5
      have hB5 := hSd.call h5
      have e0 := (hB5.oldBoxD hbd).1
      have c0 := hB5.bcell 0 rfl 0 rfl
      have c1 := hB5.bcell 0 rfl 1 rfl
      have f0 := hB5.bfree 0 rfl
      refine hK.out _ _ e0 (fun hHeld => ?_)
      clear hK K
      try simp only [Act.put, List.setIfInBounds_toArray, List.set_cons_zero, List.set_cons_succ]
      refine takeP (i := 6) (v := ?_) rfl (by kernel_rfl) (fun _ _ _ h => h) (by rfl) ?_ (by assumption) ?_
      case refine_2 => (intro w'; go_simp; first | done | with_reducible rfl)
      try simp only [Act.put, List.setIfInBounds_toArray, List.set_cons_zero, List.set_cons_succ]
      refine readyG (rs := [7]) (by kernel_rfl) (by simp) ?_
      refine AllG.last rfl (by kernel_rfl) (fun K hK => ?_) AllG.nil
      go_simp
      refine hK.out _ _ ?_
      clear hK K
      try simp only [Act.put, List.setIfInBounds_toArray, List.set_cons_zero, List.set_cons_succ]
      refine doneG (by kernel_rfl) ?_ _
      refine NoPanic.normal ?_
      have h6 := (hB5.bstore 0 rfl 0 (.int .i64 P)).bstore 0 rfl 1 (.slice ua A.length uc)
      have d0 := h6.bcell 0 rfl 0 rfl
      have d1 := h6.bcell 0 rfl 1 rfl
      clear hB5 h5 c0 c1 e0 f0 hS hSd
      go_wp2_with fail
      refine bodyPost_ret (v := .agg #[.int .i64 P, .slice ua A.length uc]) (by simp [results, Tryz.results35, go_sem, d0, d1]) rfl ?_
      exact ⟨_, us5, rfl, hl5, h6.sub (L' := own2 (.slice ua A.length uc) us5 (srtL (imgL p A))) ((List.sublist_append_right (own2 u5 uo (imgL p A)) _).trans (List.sublist_cons_self _ _))⟩
end Go.Proofs.YtljemlfocajhnaaGreat
end

section
/- Walks: orthogonal squares and lists of them, of the reference. Walks: valid lists of orthogonal squares, of the reference. -/
namespace Go.Proofs.YtljemlfocajhnaaGreat
set_option linter.unusedSimpArgs false
set_option linter.unusedVariables false
open Go.RowKit
attribute [local go_sem ↓] Go.wp_at_zero Go.wp_at_succ


/-- a square that is filled as far as place y of row x -/
structure FilQ (n : Nat) (f : Nat → Nat → Int) (x y : Nat) (S : List (List Int)) : Prop where
  sqr : Sqr n S
  at' : ∀ x' y', Bef n x y x' y' → at2 S x' y' = f x' y'
theorem FilQ.start {n : Nat} {f : Nat → Nat → Int} : FilQ n f 0 0 (sqF n fun _ _ => 0) := ⟨sqF_sqr _ _, fun _ _ h => by unfold Bef at h; omega⟩
theorem FilQ.step {n : Nat} {f : Nat → Nat → Int} {x y : Nat} {S : List (List Int)} (h : FilQ n f x y S) (hx : x < n) (hy : y < n) : FilQ n f x (y + 1) (putS S x y (f x y)) := by
  refine ⟨putS_sqr h.sqr hx _ _, fun x' y' hb => ?_⟩
  rw [at2_putS h.sqr hx hy]
  split
  · rename_i e; rw [← e.1, ← e.2]
  · rename_i e; exact h.at' x' y' (by unfold Bef at hb ⊢; omega)
theorem FilQ.next {n : Nat} {f : Nat → Nat → Int} {x : Nat} {S : List (List Int)} (h : FilQ n f x n S) : FilQ n f (x + 1) 0 S := ⟨h.sqr, fun x' y' hb => h.at' x' y' (by unfold Bef at hb ⊢; omega)⟩
theorem FilQ.done {n : Nat} {f : Nat → Nat → Int} {S : List (List Int)} (h : FilQ n f n 0 S) : S = sqF n f :=
  sq_ext h.sqr (sqF_sqr _ _) fun x y hx hy => by rw [h.at' x y ⟨hx, hy, .inl hx⟩, at2_sqF hx hy]
end Go.Proofs.YtljemlfocajhnaaGreat
end

section
/- Walks: squares that the reference draws, whole or not. Walks: squares that the reference draws, whole or not; isotopes and conjugates that are drawn. -/
namespace Go.Proofs.YtljemlfocajhnaaGreat
set_option linter.unusedSimpArgs false
set_option linter.unusedVariables false
open Go.RowKit
attribute [local go_sem ↓] Go.wp_at_zero Go.wp_at_succ


/-- a row cut at place k -/
theorem St.shrink {B : Nat} {w0 w : World} {L : List Ent} (h : St B w0 w L) (i : Nat) {e : TypeId} {v : Value} {us : List Value} (hi : L[i]? = some (row e v us)) (k : Nat) (hk : k ≤ us.length) : St B w0 w (L.set i (row e (rsl v 0 k) (us.take k))) := by
  have hg : ∀ r, w.grownBy w r := fun r => ⟨rfl, rfl, rfl, Nat.le_refl _, fun _ _ _ => rfl⟩
  have hx := h.ok _ (List.mem_of_getElem? hi)
  rcases hx with ⟨hp, _⟩ | ⟨_, hv, hu⟩ | ⟨_, g, cap, cur, hv, hB, hh, h1, h2, h3, h4⟩
  · simp [row] at hp
  · simp only [row] at hv hu
    subst hv; subst hu
    have hk0 : k = 0 := by simpa using hk
    subst hk0
    exact h.put i hi (hg _) _ (.inr (.inl ⟨rfl, rfl, rfl⟩)) (.inl rfl)
  · simp only [row] at hv h1 h4 hh
    have e1 : rsl v 0 k = .slice (some ⟨g, 0, none⟩) k cap := by
      rw [hv]
      simp only [rsl, sliced, Nat.zero_mul, Nat.sub_zero, Option.map_some]
      rw [add_mk]; simp
    have hl : (us.take k).length = k := by rw [List.length_take]; omega
    rw [e1]
    refine h.put i hi (hg _) (row e (.slice (some ⟨g, 0, none⟩) k cap) (us.take k)) (.inr (.inr ⟨rfl, g, cap, cur, ?_, hB, hh, ?_, h2, h3, ?_⟩)) (.inl ?_)
    · simp only [row]; rw [hl]
    · simp only [row]; rw [hl]; omega
    · simp only [row]; rw [hl, ← h4, List.take_take, Nat.min_eq_left hk]
    · simp only [row]; rw [hv]; rfl
theorem xat_put {A : List (List Int)} {j k : Nat} {r : List Int} (h : j < A.length) : xat (A.set j r) k = if j = k then r else xat A k := by
  unfold xat
  rw [List.getD_eq_getElem?_getD, List.getElem?_set]
  split
  · rename_i e; subst e; simp [h]
  · simp
/-- rows, not more than 10, of not more than 10 numbers each -/
structure SmA (A : List (List Int)) : Prop where
  len : A.length ≤ 10
  row : ∀ x, x < A.length → (xat A x).length ≤ 10
theorem Sq0.sm {n : Nat} {A : List (List Int)} (h : Sq0 n A) (hn : n ≤ 10) : SmA A := ⟨by rw [h.len]; exact hn, fun x hx => by rw [h.row x (by rw [← h.len]; exact hx)]; exact hn⟩
theorem SmA.put {A : List (List Int)} (h : SmA A) {x : Nat} (hx : x < A.length) {r : List Int} (hr : r.length ≤ 10) : SmA (A.set x r) :=
  ⟨by rw [List.length_set]; exact h.len, fun t ht => by
    rw [List.length_set] at ht
    rw [xat_put hx]; split
    · exact hr
    · exact h.row t ht⟩
theorem SmA.take {A : List (List Int)} (h : SmA A) (k : Nat) : SmA (A.take k) :=
  ⟨by rw [List.length_take]; have := h.len; omega, fun x hx => by
    have hx' : x < A.length := by rw [List.length_take] at hx; omega
    have : xat (A.take k) x = xat A x := by rw [xat_eq hx, xat_eq hx', List.getElem_take]
    rw [this]; exact h.row x hx'⟩
end Go.Proofs.YtljemlfocajhnaaGreat
end

section
/- Walks: the reference's squares of a field, lists of them that are drawn. -/
namespace Go.Proofs.YtljemlfocajhnaaGreat
set_option linter.unusedSimpArgs false
set_option linter.unusedVariables false
open Go.RowKit
attribute [local go_sem ↓] Go.wp_at_zero Go.wp_at_succ


/-! ### lists of squares in another order -/
theorem Fit3.take {vs : List Value} {uss : List (List Value)} {X : List (List (List Int))} (h : Fit3 vs uss X) (k : Nat) : Fit3 (vs.take k) (uss.take k) (X.take k) := by
  obtain ⟨h1, h2, h3⟩ := h
  refine ⟨by simp [h1], by simp [h2], fun t ht => ?_⟩
  rw [List.length_take] at ht
  have := h3 t (by omega)
  unfold vsat x3at at this ⊢
  simp only [List.getD, List.getElem?_take, if_pos (show t < k by omega)] at this ⊢
  exact this
section
variable {ops : Array Oper} {o : Oper} {a : Act} {K : Act → World → Prop} {Q : Exit → Act → World → Prop} {E : Prop} {B : Nat} {w0 w : World} {L : List Ent}
end
end Go.Proofs.YtljemlfocajhnaaGreat
end
