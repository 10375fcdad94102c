/- The texts of this claim, run 8: LDual Prf PFnDual. -/
import Derived.Test.YtejncephbafcdaaK3
import Derived.Test.YtejncephbafcdaaK4
import Derived.Test.YtejncephbafcdaaK6
import Derived.Test.YtejncephbafcdaaK7
import Derived.ProofKit
import Derived.OpenShut
import Derived.ShutString
import Derived.ChangeOld
import Derived.Below
section
/- The law FnDual, walked. -/
namespace Go.Proofs.Ytejncephbafcdaa
set_option linter.unusedSimpArgs false
set_option linter.unusedVariables false
open Go.RowKit
attribute [local go_sem ↓] Go.wp_at_zero Go.wp_at_succ

theorem newD3 (w : World) (P : Int) (v : Value) : St w.heap.size w (w.alloc (.cells #[.int .i64 P, v] 41)) [] ∧ BoxD (w.alloc (.cells #[.int .i64 P, v] 41)) w.heap.size P v := by
  have hN := (St.refl w).newboxF 41 #[.int .i64 P, v]
  exact ⟨hN.out, hN.bcell 0 rfl 0 rfl, hN.bcell 0 rfl 1 rfl⟩
theorem newP3 (w : World) (a b c d e : Int) : St w.heap.size w (w.alloc (.cells #[.int .i64 a, .int .i64 b, .int .i64 c, .int .i64 d, .int .i64 e] 44)) [] ∧ BoxP (w.alloc (.cells #[.int .i64 a, .int .i64 b, .int .i64 c, .int .i64 d, .int .i64 e] 44)) w.heap.size a b c d e := by
  have hN := (St.refl w).newboxF 44 #[.int .i64 a, .int .i64 b, .int .i64 c, .int .i64 d, .int .i64 e]
  exact ⟨hN.out, hN.bcell 0 rfl 0 rfl, hN.bcell 0 rfl 1 rfl, hN.bcell 0 rfl 2 rfl, hN.bcell 0 rfl 3 rfl, hN.bcell 0 rfl 4 rfl⟩
/-- what stays -/
structure LU (w : World) (a : Option Addr) (c : Nat) (us : List Value) (A : List (List Int)) (P : Nat) (g : Nat) (W : World) : Prop where
  rd : RII W (.slice a A.length c) us A
  bd : BoxD W g P (.slice a A.length c)
  st : St w.heap.size w W []
theorem LU.call {w W W' : World} {a : Option Addr} {c : Nat} {us : List Value} {A : List (List Int)} {P g : Nat} {M : List Ent} (h : LU w a c us A P g W) (h' : St W.heap.size W W' M) : LU w a c us A P g W' :=
  ⟨h.rd.keep h'.below, h.bd.keep h'.below, h.st.call0 h'.out⟩
/-- and the dual, with its box -/
structure LX (w : World) (a : Option Addr) (c : Nat) (us : List Value) (A : List (List Int)) (P : Nat) (g : Nat) (ax : Option Addr) (cx : Nat) (ux : List Value) (X : List (List Int)) (g2 : Nat) (W : World) : Prop where
  e : LU w a c us A P g W
  rx : RII W (.slice ax P cx) ux X
  bx : BoxD W g2 A.length (.slice ax P cx)
theorem LX.call {w W W' : World} {a ax : Option Addr} {c cx : Nat} {us ux : List Value} {A X : List (List Int)} {P g g2 : Nat} {M : List Ent} (h : LX w a c us A P g ax cx ux X g2 W) (h' : St W.heap.size W W' M) : LX w a c us A P g ax cx ux X g2 W' :=
  ⟨h.e.call h', h.rx.keep h'.below, h.bx.keep h'.below⟩
theorem prm_two (P : Nat) (A : List (List Int)) : prmC P A = 6 ∨ (prmC P A = 0 ∧ prmB P A = true ∧ prmV P A = [(P : Int), (A.length : Int), nth (repL P A) 0, ((xat A 0).length : Int), nth (parL P A) 0]) := by
  by_cases h : prmB P A = true
  · exact .inr ⟨by rw [prmC, if_pos h], h, prm_val h⟩
  · exact .inl (by rw [prmC, if_neg h])
set_option maxHeartbeats 16000000 in
set_option maxRecDepth 100000 in
theorem FnDual_law (w : World) (cv : Value) (bs : List UInt8) (hb : RdB w cv bs) :
    Calls Try.prog 5 #[cv] w (GivesB w true) := by
  have hlb := hb.len
  have heb := hb.le
  by_cases hlo : 1048576 < (bs.length : Int)
  · go_enter Try.func5, Try.ntmps5
    go_wp2_with fail
    go_ret
    exact ⟨rfl, St.refl _⟩
  · go_enter Try.func5, Try.ntmps5
    go_wp2_with fail
    refine (V8Design_c w cv bs hb).mono ?_
    clear hlb heb hlo
    rintro e w1 ⟨P, A, v, us, hok, rfl, rd, ht⟩
    obtain ⟨a, c, hsh⟩ := rd.1.sl.sh
    rw [rd.2.1] at hsh
    subst hsh
    have Hok := Lib.hid hok
    have HD := Lib.hid (dOk_t hok)
    obtain ⟨hn, bd⟩ := newD3 w1 P (.slice a A.length c)
    have hE : LU w a c us A P _ _ := ⟨rd.keep hn.below, bd, ht.call0 hn⟩
    clear hok rd bd ht hn hb
    have b0 := hE.bd.1
    have b1 := hE.bd.2
    have KM := Lib.hid (DualDesign_c P (.slice a A.length c) us A _ hE.rd Hok.out)
    unfold dv at KM ⊢
    go_wp2_with fail
    refine KM.out.mono ?_
    clear KM b0 b1
    rintro e w2 (⟨hc, vx, ux, rfl, hlx, h2⟩ | ⟨hc, vx, ux, rfl, hlx, h2⟩)
    · obtain ⟨ax, cx, hsx⟩ := (h2.rd 0 (e := 52) (v := vx) (us := ux) rfl).sl.sh
      subst hsx
      have hE := hE.call h2
      obtain ⟨hn, -⟩ := newD3 w2 0 (.slice ax ux.length cx)
      have hE := hE.call hn
      have KM := Lib.hid (sDualDesign_no P (.slice a A.length c) us A _ hE.rd Hok.out hc)
      have fC := ne_t hc
      clear h2 hlx hn hc
      generalize duC P A = C at *
      have b0 := hE.bd.1
      have b1 := hE.bd.2
      unfold dv at KM ⊢
      go_wp2_with fail
      refine KM.out.mono ?_
      clear KM b0 b1
      rintro e w3 ⟨vy, uy, rfl, hly, h3⟩
      obtain ⟨ay, cy, hsy⟩ := (h3.rd 0 (e := 52) (v := vy) (us := uy) rfl).sl.sh
      subst hsy
      have hE := hE.call h3
      obtain ⟨hn, -⟩ := newD3 w3 0 (.slice ay uy.length cy)
      have hE := hE.call hn
      have eC : (C == C) = true := eq_t rfl
      clear h3 hly hn
      unfold dv
      go_wp2_with fail
      go_ret
      exact ⟨by first | rfl | (simp), hE.st⟩
    · have rx := h2.rii hlx
      obtain ⟨HokX, hA1⟩ := dual_ok HD.out hc
      have hXl : (srtL (duaL P A)).length = P := by rw [srtL_len, duaL_len]
      have hRL := Lib.hid (fun i (hi : i < A.length) => dual_repL (P := P) (fun i hi => HD.out.inc' hi) hi)
      have hSy := Lib.hid (fun hb hs => dual_sym (P := P) (A := A) Hok.out hb hs)
      have HokX := Lib.hid HokX
      generalize srtL (duaL P A) = X at *
      obtain ⟨ax, cx, hsx⟩ := rx.1.sl.sh
      rw [rx.2.1, hXl] at hsx
      subst hsx
      have HXl := Lib.hid hXl
      have hE := hE.call h2
      obtain ⟨hn, bx⟩ := newD3 w2 A.length (.slice ax P cx)
      have hX : LX w a c us A P _ ax cx ux X _ _ := ⟨hE.call hn, rx.keep hn.below, bx⟩
      clear hE rx bx hn h2 hlx hXl
      clear hc
      have b0 := hX.e.bd.1
      have b1 := hX.e.bd.2
      have x0 := hX.bx.1
      have x1 := hX.bx.2
      have KM := Lib.hid (ReplicationsOf_c A.length (.slice ax P cx) ux X _ hX.rx HokX.out)
      have fA : ((A.length : Int) != (A.length : Int)) = false := ne_f rfl
      have fP : ((P : Int) != (P : Int)) = false := ne_f rfl
      have hRl := repL_len A.length X
      generalize repL A.length X = RL at *
      unfold dv at KM ⊢
      go_wp2_with fail
      refine KM.out.mono ?_
      clear KM b0 b1 x0 x1
      rintro e w3 ⟨vr, rfl, h3⟩
      have rr := h3.rdI 0 rfl
      have hX := hX.call h3
      clear h3
      have hlr := rr.len
      rw [hRl] at hlr
      have b0 := hX.e.bd.1
      have b1 := hX.e.bd.2
      go_wp2_with fail
      clear b0 b1
      have hS0 := St.refl w3
      go_loopw [10] (fun i wr => ∃ k : Nat, k ≤ A.length ∧ i = .int .i64 k ∧ St w3.heap.size w3 wr []) (fun i _ => A.length - (intOf i).toNat)
      case atStart => exact ⟨0, by omega, rfl, hS0⟩
      case round =>
        clear hS0
        obtain ⟨k, hk, rfl, hS⟩ := hrel
        have hl128 := HD.out.len
        by_cases hlt : k < A.length
        · have qa := fun s : SS w3.heap.size w3 [] => (rr.keep s.st.below).cell k (by omega)
          have qb := fun s : SS w3.heap.size w3 [] => (hX.e.bd.keep s.st.below).2
          have qc := fun s : SS w3.heap.size w3 [] => (hX.e.rd.keep s.st.below).cell k hlt
          have xr := rr.ixe (k : Int) k rfl (by omega)
          have xk := hX.e.rd.ixe (k : Int) k rfl hlt
          have hlk := (hX.e.rd.row k hlt).len
          have f := ne_f (hRL.out k hlt)
          go_wp2_with fail
          have hne : Nonempty (SS _ _ _) := ⟨⟨_, hS⟩⟩
          refine wp_region_st (by kernel_rfl) (by kernel_rfl) hS ?_
          repeat (go_big_quiet_step (fail))
          refine wpQuiet_nil ?_
          rintro _ ⟨s2, rfl⟩
          have hS4 := s2.st
          generalize s2.w = w4 at hS4 ⊢
          go_wp2_with fail
          go_roundw
          case rel => exact ⟨k + 1, by omega, by go_num, hS4⟩
          case measure => simp [intOf]; omega
        · obtain rfl : k = A.length := by omega
          have hX := hX.call hS
          clear rr hS hRL
          have b0 := hX.e.bd.1
          have b1 := hX.e.bd.2
          have KM := Lib.hid (sParametersOf_c P (.slice a A.length c) us A _ hX.e.rd Hok.out)
          rcases prm_two P A with h6 | ⟨h6, hpb, hpv⟩
          · rw [h6] at KM
            generalize prmV P A = Q at *
            unfold dv at KM
            go_wp2_with fail
            refine KM.out.mono ?_
            clear KM b0 b1
            rintro e w5 ⟨rfl, h5⟩
            unfold pmV
            have hX := hX.call h5
            obtain ⟨hn, -⟩ := newP3 w5 (nth Q 0) (nth Q 1) (nth Q 2) (nth Q 3) (nth Q 4)
            have hX := hX.call hn
            clear h5 hn
            go_wp2_with fail
            go_ret
            exact ⟨rfl, hX.e.st⟩
          · have hSy := Lib.hid (hSy.out hpb)
            rw [hpv] at hSy
            rw [h6, hpv] at KM
            generalize nth (repL P A) 0 = R at *
            generalize ((xat A 0).length : Int) = K at *
            generalize nth (parL P A) 0 = Lm at *
            clear h6 hpb hpv
            unfold dv at KM
            go_wp2_with fail
            refine KM.out.mono ?_
            clear KM b0 b1
            rintro e w5 ⟨rfl, h5⟩
            rw [pmV_5]
            have hX := hX.call h5
            obtain ⟨hn, bp⟩ := newP3 w5 P A.length R K Lm
            have hX := hX.call hn
            clear h5 hn
            have p0 := bp.1
            have p1 := bp.2.1
            have p3 := bp.2.2.2.1
            by_cases hs : A.length = P
            · by_cases hK : K = P
              · have f1 := ne_f (show (A.length : Int) = P by omega)
                have f2 := eq_t hK
                clear hK hs
                go_wp2_with fail
                go_ret
                exact ⟨rfl, hX.e.st⟩
              · have f1 := ne_f (show (A.length : Int) = P by omega)
                have f2 : (K == (P : Int)) = false := by simpa using hK
                obtain ⟨y1, y2, y3⟩ := hSy.out hs
                clear hK hs hSy
                have x0 := hX.bx.1
                have x1 := hX.bx.2
                have KM := Lib.hid (ParametersOf_c A.length (.slice ax P cx) ux X _ hX.rx HokX.out)
                rw [y2, show prmC A.length X = 0 by rw [prmC, if_pos y1]] at KM
                clear y1 y2
                unfold dv at KM
                go_wp2_with fail
                refine KM.out.mono ?_
                clear KM x0 x1 p0 p1 p3
                rintro e w6 ⟨rfl, h6⟩
                rw [pmV_5]
                have hX := hX.call h6
                have bp := bp.keep h6.below
                obtain ⟨hn, bq⟩ := newP3 w6 P A.length R K Lm
                have hX := hX.call hn
                have bp := bp.keep hn.below
                clear h6 hn
                have b0 := hX.e.bd.1
                have b1 := hX.e.bd.2
                have KM := Lib.hid (MeetingsOf_c P (.slice a A.length c) us A _ hX.e.rd Hok.out)
                rw [y3] at KM
                clear y3
                unfold dv at KM
                go_wp2_with fail
                refine KM.out.mono ?_
                clear KM b0 b1
                rintro e w7 ⟨vl, rfl, h7⟩
                have rl := h7.rdI 0 rfl
                have hX := hX.call h7
                have bp := bp.keep h7.below
                have bq := bq.keep h7.below
                clear h7
                have hll := rl.len
                have xl := rl.ixe (0 : Int) 0 rfl (by simp)
                have ql := fun s : SS w7.heap.size w7 [] => (rl.keep s.st.below).cell 0 (by simp)
                have p0 := fun s : SS w7.heap.size w7 [] => (bp.keep s.st.below).1
                have p1 := fun s : SS w7.heap.size w7 [] => (bp.keep s.st.below).2.1
                have p2 := fun s : SS w7.heap.size w7 [] => (bp.keep s.st.below).2.2.1
                have p3 := fun s : SS w7.heap.size w7 [] => (bp.keep s.st.below).2.2.2.1
                have p4 := fun s : SS w7.heap.size w7 [] => (bp.keep s.st.below).2.2.2.2
                have q0 := fun s : SS w7.heap.size w7 [] => (bq.keep s.st.below).1
                have q1 := fun s : SS w7.heap.size w7 [] => (bq.keep s.st.below).2.1
                have q2 := fun s : SS w7.heap.size w7 [] => (bq.keep s.st.below).2.2.1
                have q3 := fun s : SS w7.heap.size w7 [] => (bq.keep s.st.below).2.2.2.1
                have q4 := fun s : SS w7.heap.size w7 [] => (bq.keep s.st.below).2.2.2.2
                have e0 : (nth [Lm] 0 == Lm) = true := eq_t rfl
                have e1 : (((([Lm] : List Int).length : Nat) : Int) == 1) = true := rfl
                generalize hY : ([Lm] : List Int) = Y at *
                have hS := St.refl w7
                go_wp2_with fail
                have hne : Nonempty (SS _ _ _) := ⟨⟨_, hS⟩⟩
                refine wp_region_st (by kernel_rfl) (by kernel_rfl) hS ?_
                repeat (go_big_quiet_step (fail))
                refine wpQuiet_nil ?_
                rintro _ ⟨s2, rfl⟩
                have hS8 := s2.st
                generalize s2.w = w8 at hS8 ⊢
                go_wp2_with fail
                go_ret
                exact ⟨by first | rfl | simp_all, hX.e.st.call0 hS8⟩
            · have f1 := ne_t (show ¬ (A.length : Int) = P by omega)
              go_wp2_with fail
              go_ret
              exact ⟨rfl, hX.e.st⟩
end Go.Proofs.Ytejncephbafcdaa
end

section
/- How arguments that come in read. How bytes that come in read. -/
namespace Go.Proofs.Ytejncephbafcdaa
set_option linter.unusedSimpArgs false
set_option linter.unusedVariables false
open Go.RowKit


/-- what came in as a slice of integers: nothing, or a row of numbers that fit -/
def IsRow (k : IntKind) (w : World) (a : Option Addr) (len cap : Nat) (zs : List Int) : Prop :=
  (a = none ∧ len = 0 ∧ cap = 0 ∧ zs = []) ∨
  ∃ x, a = some x ∧ len ≤ cap ∧ cap ≤ maxLen ∧ zs.length = cap ∧ (∀ i, i < zs.length → w.cell? (x.add i) = some (.int k (zs.getD i 0))) ∧ ∀ n ∈ zs, (Lit.int k n).wf = true

theorem IsRow.rd {k : IntKind} {w : World} {a : Option Addr} {len cap : Nat} {zs : List Int} (h : IsRow k w a len cap zs) : Rd w (.slice a len cap) ((zs.take len).map (Value.int k)) := by
  rcases h with ⟨rfl, rfl, rfl, rfl⟩ | ⟨x, rfl, h1, h2, h3, h4, h5⟩
  · exact Rd.nil w
  · have hl : ((zs.take len).map (Value.int k)).length = len := by simp; omega
    refine ⟨⟨some x, cap, by rw [hl], by omega, h2, .inr (by simp)⟩, ?_⟩
    intro i u hu
    have hi : i < len := by have := (List.getElem?_eq_some_iff.1 hu).1; omega
    have := h4 i (by omega)
    simp only [List.getElem?_map, List.getElem?_take, hi, if_true] at hu
    rw [List.getElem?_eq_getElem (by omega)] at hu
    simp at hu
    simp only [el]
    rw [this, ← hu]
    simp [List.getD, List.getElem?_eq_getElem (show i < zs.length by omega)]


theorem IsRow.rdB {w : World} {a : Option Addr} {len cap : Nat} {zs : List Int} (h : IsRow .u8 w a len cap zs) : ∃ bs, RdB w (.slice a len cap) bs := by
  refine ⟨(zs.take len).map fun n => UInt8.ofNat n.toNat, ?_⟩
  have h1 := h.rd
  have hw : ∀ n ∈ zs, 0 ≤ n ∧ n ≤ 255 := by
    rcases h with ⟨_, _, _, rfl⟩ | ⟨_, _, _, _, _, _, h5⟩
    · simp
    · intro n hn; have := h5 n hn; simpa [Lit.wf, IntKind.min, IntKind.max, IntKind.signed, IntKind.bits] using this
  unfold RdB bv
  rw [List.map_map]
  rw [List.map_congr_left (g := Value.int .u8)]
  · exact h1
  · intro n hn
    have := hw n (List.mem_of_mem_take hn)
    simp only [Function.comp]
    congr 1
    rw [UInt8.toNat_ofNat']
    omega

end Go.Proofs.Ytejncephbafcdaa
end

section
/- FnDual holds: for every input the call returns true and leaves its arguments as they are. No condition. -/
namespace Go.Proofs.Ytejncephbafcdaa.fnDual
set_option linter.unusedSimpArgs false
set_option linter.unusedVariables false
open Go.ChangeShapes Go.WideShapes Go.ChangeAt Go.RowKit
set_option linter.unusedVariables false

theorem own : ownKnob Try.prog.godebug = none := by kernel_rfl
theorem laidOut : laidOutB Try.prog = true := by kernel_rfl

set_option maxRecDepth 100000 in
theorem lifted (os : Os) (started : os.Started) (H : Type) (enc : TypeId × Value → H) :
    ReturnsInHanded {} Try.checked os 5 .any (Rows.fnDualSpec.pre6 enc Try.prog Try.f5 Rows.fnDualRow.domain false) (Rows.fnDualSpec.post enc Try.prog Try.f5 false true false false) := by
  refine returnsInHanded_of_change (C := Try.checked) own started (by kernel_rfl) Try.func5
    (ChangeSpec.witness6 (enc := enc) (C := Try.checked) false ⟨#[], #[.slice none 0 0], []⟩ 8 (by kernel_rfl) (by kernel_rfl) (by kernel_rfl) (by kernel_rfl)) ?_
  intro W base args ds gs before hval0 hW hcnd _
  have hval : ∀ (j : Nat) t v, Try.f5.params[j]? = some t → args[j]? = some v → Value.okWide Try.prog W .any base t v := hval0
  have hW' := hW
  obtain ⟨p, q, hA0, hV, rfl, hfz, hnd⟩ := hW
  have hA : DataW.TrodAll enc Try.prog W 0 (fun _ => true) true Try.f5.params.toList args.toList ds p := hA0
  rw [Try.params5] at hA hval
  obtain ⟨v0, vs0, d0, ds0, p0, q0, hargs, rfl, rfl, h0, r0⟩ := trodAll_cons hA
  obtain ⟨rfl, rfl, rfl⟩ := trodAll_nil r0
  obtain rfl : args = #[v0] := by cases args; simp_all
  obtain ⟨rfl, rfl⟩ := trodVars_none hV
  obtain ⟨a0, len0, cap0, rfl⟩ := okWide_slice Try.underlying22 (hval 0 22 v0 rfl rfl)
  have k0 := h0
  have lt0 : ∀ x ∈ p0, x.block < W.heap.size := by obtain ⟨m, hm⟩ := k0; exact DataW.trod_lt m _ _ _ hm
  obtain ⟨bs0, rd0⟩ : ∃ bs, RdB W (.slice a0 len0 cap0) bs := by
    obtain ⟨fuel, hf⟩ := h0
    rcases open_ints Try.underlying22 Try.underlying5 (by kernel_rfl) hf with ⟨hcs, _⟩ | ⟨x, l, c, zs, hcs, _, hl, hm, hz, _, hcell, hwz⟩
    · simp [Value.cells] at hcs
      obtain ⟨rfl, rfl, rfl⟩ := hcs
      exact IsRow.rdB (zs := []) (.inl ⟨rfl, rfl, rfl, rfl⟩)
    · simp [Value.cells] at hcs
      obtain ⟨rfl, rfl, rfl⟩ := hcs
      exact IsRow.rdB (zs := zs) (.inr ⟨_, rfl, hl, hm, by simpa using hz, hcell, hwz⟩)
  clear hA0 hval0
  refine (FnDual_law W _ bs0 rd0).mono fun e W' ⟨he, hst⟩ => ?_
  have bel := hst.below
  subst he
  exact ⟨_, rfl, _, _, _, [], _, [], hW', trodAll_mk1 (shut_bool Try.underlying4 _), (trodAll_cons_mk (Below.trod laidOut (by kernel_rfl) (of_decide_eq_true (by kernel_rfl)) k0 bel lt0) trodAll_mk0), rfl, bel.frame _, fun h => by cases h⟩

theorem over : Rows.fnDualRow.holds Try.pinned (OpenSpec.ofChange Rows.fnDualSpec) :=
  OpenClaim.holds_of_wide 5 Try.f5 rfl rfl rfl rfl rfl rfl rfl ⟨rfl, rfl, rfl, rfl, rfl⟩ rfl rfl rfl rfl rfl (by kernel_rfl) Try.func5 (by kernel_rfl)
    (of_decide_eq_true (by kernel_rfl)) (by unfold Func.isWrapper; first | (rw [if_pos (by decide +kernel)]; kernel_rfl) | (rw [if_neg (by decide +kernel)]; exact ⟨rfl, rfl⟩))
    (fun os started H enc _ => lifted os started H enc)

theorem proved : Rows.FnDualSaid := over
#print axioms proved
end Go.Proofs.Ytejncephbafcdaa.fnDual
end
