/- The texts of this claim, run 4: Set Tx4 Drw II Src2 Ls1 LLs Prf PrfL PFnLists. -/
import Derived.Test.YtdlmohigkkdegaaDoorK2
import Derived.Test.YtdlmohigkkdegaaDoorK3
import Derived.Deep.RegionLaw
import Derived.ProofKit
import Derived.OpenShut
import Derived.LaidMore
import Derived.LaidLaws
import Derived.MakeChecks
import Derived.Lay
import Derived.Lib.LaidTab
import Derived.Shelf.Vars
import Derived.Stop.Joined
import Derived.Test.YtdlmohigkkdegaaDoorTie
import Derived.Test.YtdlmohigkkdegaaDoorCards
import Derived.ShutString
import Derived.ChangeOld
import Derived.Below
section
/- Walks: sets. -/
namespace Go.Proofs.YtdlmohigkkdegaaDoor
set_option linter.unusedSimpArgs false
set_option linter.unusedVariables false
open Go.RowKit
set_option maxHeartbeats 1000000 in
set_option maxRecDepth 100000 in
theorem b10Nums_c (va vb : Value) (xs ys : List Int) (w : World) (ha : RdI w va xs) (hb : RdI w vb ys) :
    Calls Tryd.prog 9 #[va, vb] w (GivesB w (decide (xs = ys))) := by
  have hla := ha.len
  have hlb := hb.len
  have hia := ha.ix
  have hib := hb.ix
  have hma := ha.le
  by_cases hne : xs.length = ys.length
  · have f0 : ((xs.length : Int) != (ys.length : Int)) = false := ne_f (by omega)
    have hle : xs.length ≤ ys.length := by omega
    have Hne := Lib.hid hne; clear hne
    go_enter Tryd.func9, Tryd.ntmps9
    go_wp2_with fail
    go_loopw [5] (fun i wr => ∃ k : Nat, k ≤ xs.length ∧ i = .int .i64 k ∧ Hid (∀ j, j < k → nth xs j = nth ys j) ∧ St w.heap.size w wr []) (fun i _ => xs.length - (intOf i).toNat)
    case atStart => exact ⟨0, by omega, rfl, fun j hj => by omega, St.refl w⟩
    case round =>
      obtain ⟨k, hk, rfl, hI, hS⟩ := hrel
      by_cases hlt : k < xs.length
      · have hqa := fun s : SS w.heap.size w [] => (s.st.oldI ha).cell k hlt
        have hqb := fun s : SS w.heap.size w [] => (s.st.oldI hb).cell k (by omega)
        have hk2 : k < ys.length := by omega
        by_cases h1 : nth xs k = nth ys k
        · have f1 := ne_f h1
          have H1 := Lib.hid h1; clear h1
          go_wp2_with fail
          have hne : Nonempty (SS _ _ _) := ⟨⟨_, hS⟩⟩
          refine wp_region_st (by kernel_rfl) (by kernel_rfl) hS ?_
          repeat (go_big_quiet_step (fail))
          refine wpQuiet_nil ?_
          rintro _ ⟨s2, rfl⟩
          have hS2 := s2.st
          generalize s2.w = w2 at hS2 ⊢
          go_wp2_with fail
          go_roundw
          case rel => exact ⟨k + 1, by omega, by go_num, fun j hj => by
            by_cases e : j = k
            · subst e; exact H1.out
            · exact hI.out j (by omega), hS2⟩
          case measure => simp [intOf]; omega
        · have f1 := ne_t h1
          have H1 := Lib.hid h1; clear h1
          go_wp2_with fail
          have hne : Nonempty (SS _ _ _) := ⟨⟨_, hS⟩⟩
          refine wp_region_st (by kernel_rfl) (by kernel_rfl) hS ?_
          repeat (go_big_quiet_step (fail))
          refine wpQuiet_nil ?_
          rintro _ ⟨s2, rfl⟩
          have hS2 := s2.st
          generalize s2.w = w2 at hS2 ⊢
          go_wp2_with fail
          go_ret
          exact ⟨ret_bool (by symm; rw [decide_eq_false_iff_not]; intro e; subst e; exact H1.out rfl), hS2⟩
      · go_wp2_with fail
        go_ret
        refine ⟨ret_bool ?_, hS⟩
        symm; rw [decide_eq_true_iff]
        apply List.ext_getElem Hne.out
        intro j h1 h2
        have := hI.out j (by omega)
        rwa [nth_eq h1, nth_eq h2] at this
  · have f0 : ((xs.length : Int) != (ys.length : Int)) = true := ne_t (by omega)
    have Hne := Lib.hid hne; clear hne
    go_enter Tryd.func9, Tryd.ntmps9
    go_wp2_with fail
    go_ret
    exact ⟨ret_bool (by symm; rw [decide_eq_false_iff_not]; intro e; exact Hne.out (by rw [e])), St.refl w⟩

end Go.Proofs.YtdlmohigkkdegaaDoor
end

section
/- Walks: lists of numbers read from text. -/
namespace Go.Proofs.YtdlmohigkkdegaaDoor
set_option linter.unusedSimpArgs false
set_option linter.unusedVariables false
open Go Go.RowKit

theorem Split_c (T : List UInt8) (ws : List (List UInt8)) (w : World) (hT : Tabs w) (hc : Lib.count T [44] + 1 = ws.length) (hs : Lib.splitK [44] 0 (Lib.count T [44]) T = ws) (hl : T.length ≤ 100000) (hw : ws.length ≤ 100000) :
    Calls Tryd.prog 21 #[.string (bb T), .string ⟨#[44]⟩] w fun e w' => ∃ v, e = .returned v ∧ St w.heap.size w w' [row 9 v (sv ws)] := by
  obtain ⟨m, hm⟩ := hT.2
  have c : Calls Tryd.prog 21 #[.string (bb T), .string ⟨#[44]⟩] w _ := Any.strings_Split Tryd.mSplit (by kernel_rfl) (bb T) ⟨#[44]⟩ m w (by rw [bb_size]; omega) hm (by decide)
  have e1 : Lib.countB (bb T) ⟨#[44]⟩ = Lib.count T [44] := by show Lib.count (bb T).data.toList [44] = _; rw [bb_data]
  have e2 : (Lib.splitB ⟨#[44]⟩ 0 (Lib.countB (bb T) ⟨#[44]⟩) (bb T)).map Value.string = sv ws := by
    have h := Lib.splitB_data ⟨#[44]⟩ 0 (Lib.countB (bb T) ⟨#[44]⟩) (bb T)
    rw [bb_data, e1] at h
    have h2 : (Lib.splitB ⟨#[44]⟩ 0 (Lib.count T [44]) (bb T)).map (·.data.toList) = ws := h.trans hs
    rw [e1, ← h2, sv, List.map_map]
    exact List.map_congr_left fun b _ => by simp [bb]
  rw [e1] at c
  rw [e1] at e2
  rw [e2, hc] at c
  refine c.mono ?_
  rintro e w' ⟨rfl, rfl⟩
  have hS := (St.refl w).new 9 (sv ws).toArray (by simp [sv_len, maxLen]; omega)
  refine ⟨_, rfl, ?_⟩
  simp only [List.nil_append, List.size_toArray, sv_len] at hS
  exact hS
theorem sv_get {ws : List (List UInt8)} {j : Nat} (h : j < ws.length) : (sv ws).getD j undef = .string (bb (ws.getD j [])) := by
  simp [sv, List.getD, List.getElem?_eq_getElem h]
/-- the words that a text is parted into -/
structure Parts (T : List UInt8) (ns : List Int) : Prop where
  sign : T ≠ [45]
  cut : ∃ ws, Lib.count T [44] + 1 = ws.length ∧ Lib.splitK [44] 0 (Lib.count T [44]) T = ws ∧ ws.length = ns.length ∧ ws.length ≤ 100 ∧ T.length ≤ 2000 ∧
    ∀ j, j < ws.length → ∀ W, Tabs W → Calls Tryd.prog 10 #[.string (bb (ws.getD j []))] W fun e w' => ∃ b, e = .returned (.tuple #[.int .i64 (nth ns j), .bool b]) ∧ St W.heap.size W w' []
theorem parts_ok {x : Int} {xs : List Int} (h : TxOk (x :: xs)) : Parts (txt (x :: xs)) (x :: xs) := by
  refine ⟨(txt_sign h).1, (x :: xs).map Lib.itoa, ?_, ?_, by simp, by rw [List.length_map]; exact h.1, ?_, fun j hj W hW => ?_⟩
  · rw [txt_count h]; simp
  · rw [txt_count h, txt_split h]
  · have := txt_len (x :: xs); omega
  · rw [List.length_map] at hj
    have e : ((x :: xs).map Lib.itoa).getD j [] = Lib.itoa (nth (x :: xs) j) := by rw [List.getD, List.getElem?_map, List.getElem?_eq_getElem hj, nth_eq hj]; rfl
    rw [e]
    refine (ReadDecimal_c (nth (x :: xs) j) W hW (h.2 _ (nth_mem hj))).mono ?_
    rintro e w' ⟨rfl, h⟩
    exact ⟨_, rfl, h⟩
theorem parts_no : Parts [] [0] := by
  refine ⟨by simp, [[]], by decide, by decide, rfl, by simp, by simp, fun j hj W hW => ?_⟩
  obtain rfl : j = 0 := by simpa using hj
  refine (ReadDecimal_e W).mono ?_
  rintro e w' ⟨rfl, rfl⟩
  exact ⟨_, rfl, St.refl _⟩
def ReadsL (T : List UInt8) (ns : List Int) (w0 : World) (e : Ending) (w' : World) : Prop :=
  if txt ns = T then ∃ v, e = .returned (.tuple #[v, .bool true]) ∧ St w0.heap.size w0 w' [row 2 v (iv ns)] else ∃ v, e = .returned (.tuple #[v, .bool false]) ∧ St w0.heap.size w0 w' []
theorem emp_i {B : Nat} {w0 w : World} {L : List Ent} (h : St B w0 w L) : St B w0 w (row 2 (.slice none 0 0) [] :: L) :=
  ⟨h.below, h.base, fun x hx => by
    rcases List.mem_cons.1 hx with rfl | hx
    · exact .inr (.inl ⟨rfl, rfl, rfl⟩)
    · exact h.ok x hx, List.pairwise_cons.2 ⟨fun _ _ => .inl rfl, h.apart⟩⟩
set_option maxHeartbeats 4000000 in
set_option maxRecDepth 100000 in
theorem ReadList_c (T : List UInt8) (ns : List Int) (w : World) (hT : Tabs w) (hP : Parts T ns) : Calls Tryd.prog 7 #[.string (bb T)] w (ReadsL T ns w) := by
  obtain ⟨hs, ws, h1, h2, h3, h4, h5, h6⟩ := hP
  have hSp := Lib.hid (Split_c T ws w hT h1 h2 (by omega) (by omega))
  have HR := Lib.hid h6
  clear h1 h2 h6
  have hL := Lib.hid (fun v W (hW : Tabs W) (hv : RdI W v ns) => ListText_c v ns W hW hv)
  have HT := Lib.hid hT
  unfold ReadsL
  unfold GivesS at hL
  have hl0 : (bb T).toList = T := (Lib.toList_data _).trans (bb_data T)
  by_cases hq : txt ns = T
  · rw [hq] at hL
    simp only [if_pos hq]
    have heq0 : True := trivial
    clear hq
    generalize bb T = S at *
    have f0 : (S.toList == [45]) = false := by rw [hl0]; simpa using hs
    clear hs hl0 h5 heq0
    go_enter Tryd.func7, Tryd.ntmps7
    go_wp2_with fail
    refine hSp.out.mono ?_
    rintro e w1 ⟨vs, rfl, h1⟩
    clear hSp
    have e1 : ∀ (ty : TypeId) (W : World), (Builtin.len_ #[41] ty #[vs]).run Tryd.prog W = .ok (.int .i64 ws.length) W := fun ty W => by
      have := run_len_sl (P := Tryd.prog) (h1.rd 0 rfl).sl 41 ty Tryd.und_ss W; rwa [sv_len] at this
    have e2 := Lib.hid (fun (k : Nat) (hk : k < ws.length) (W : World) => (by have := run_ix_sl (P := Tryd.prog) (h1.rd 0 rfl).sl 41 Tryd.und_ss (by kernel_rfl) .i64 (k : Int) (by omega) (by rw [sv_len]; omega) W; rwa [Int.toNat_natCast] at this : (Instr.indexAt 41 vs (.int .i64 (k : Int))).run Tryd.prog W = .ok (.pointer (some (el vs k))) W))
    go_wp2_with fail
    go_loopw [4, 14] (fun o iv' wr => ∃ (k : Nat) (v : Value), k ≤ ws.length ∧ iv' = .int .i64 k ∧ v = o ∧ St w.heap.size w wr [row 2 v (iv (ns.take k)), row 9 vs (sv ws)]) (fun _ i _ => ws.length - (intOf i).toNat)
    case atStart => exact ⟨0, _, by omega, rfl, rfl, by simpa [iv] using emp_i h1⟩
    case round =>
      clear h1
      obtain ⟨k, v, hk, rfl, rfl, hS⟩ := hrel
      by_cases hlt : k < ws.length
      · have hki : (k : Int) < (ws.length : Int) := by omega
        have hr1 := e2.out k hlt
        have hc := (hS.rd 1 rfl).cell (i := k) (by rw [sv_len]; exact hlt)
        rw [sv_get hlt] at hc
        have hD := Lib.hid (HR.out k hlt)
        have hN := Lib.hid (show (ns.take k).length < 4294967296 by rw [List.length_take]; omega)
        have hk2 : k < ns.length := by omega
        generalize bb (ws.getD k []) = D at hc hD
        go_wp2_with fail
        refine (hD.out _ (HT.out.keep hS.below)).mono ?_
        rintro e w2 ⟨b, rfl, h2⟩
        have hS2 := hS.call0 h2
        clear h2
        go_wp2_with (at_builtin; refine appI hS2 0 rfl hN.out rfl _ _ rfl rfl _ rfl ?_; intro v5 w5 hS5; simp only [List.set_cons_zero] at hS5)
        rw [← take_nth hk2] at hS5
        go_roundw
        case rel => exact ⟨k + 1, _, by omega, by go_num, rfl, hS5⟩
        case measure => simp [intOf]; omega
      · obtain rfl : k = ws.length := by omega
        rw [h3, List.take_length] at hS
        have hS1 : St w.heap.size w wr [row 2 v (iv ns)] := hS.sub (by simp)
        go_wp2_with fail
        refine (hL.out v _ (HT.out.keep hS1.below) (hS1.rdI 0 rfl)).mono ?_
        rintro e w2 ⟨rfl, h2⟩
        have hS3 := hS1.call0 h2
        clear h2 hS hS1
        go_wp2_with fail
        go_ret2
        exact ⟨_, rfl, hS3⟩
  · simp only [if_neg hq]
    have heq0 : (bb (txt ns)).toList ≠ (bb T).toList := by rw [Lib.toList_data, Lib.toList_data, bb_data, bb_data]; exact hq
    have f1 : ((bb (txt ns)).toList == (bb T).toList) = false := by simpa using heq0
    clear hq
    generalize bb (txt ns) = S2 at *
    generalize bb T = S at *
    have f0 : (S.toList == [45]) = false := by rw [hl0]; simpa using hs
    clear hs hl0 h5 heq0
    go_enter Tryd.func7, Tryd.ntmps7
    go_wp2_with fail
    refine hSp.out.mono ?_
    rintro e w1 ⟨vs, rfl, h1⟩
    clear hSp
    have e1 : ∀ (ty : TypeId) (W : World), (Builtin.len_ #[41] ty #[vs]).run Tryd.prog W = .ok (.int .i64 ws.length) W := fun ty W => by
      have := run_len_sl (P := Tryd.prog) (h1.rd 0 rfl).sl 41 ty Tryd.und_ss W; rwa [sv_len] at this
    have e2 := Lib.hid (fun (k : Nat) (hk : k < ws.length) (W : World) => (by have := run_ix_sl (P := Tryd.prog) (h1.rd 0 rfl).sl 41 Tryd.und_ss (by kernel_rfl) .i64 (k : Int) (by omega) (by rw [sv_len]; omega) W; rwa [Int.toNat_natCast] at this : (Instr.indexAt 41 vs (.int .i64 (k : Int))).run Tryd.prog W = .ok (.pointer (some (el vs k))) W))
    go_wp2_with fail
    go_loopw [4, 14] (fun o iv' wr => ∃ (k : Nat) (v : Value), k ≤ ws.length ∧ iv' = .int .i64 k ∧ v = o ∧ St w.heap.size w wr [row 2 v (iv (ns.take k)), row 9 vs (sv ws)]) (fun _ i _ => ws.length - (intOf i).toNat)
    case atStart => exact ⟨0, _, by omega, rfl, rfl, by simpa [iv] using emp_i h1⟩
    case round =>
      clear h1
      obtain ⟨k, v, hk, rfl, rfl, hS⟩ := hrel
      by_cases hlt : k < ws.length
      · have hki : (k : Int) < (ws.length : Int) := by omega
        have hr1 := e2.out k hlt
        have hc := (hS.rd 1 rfl).cell (i := k) (by rw [sv_len]; exact hlt)
        rw [sv_get hlt] at hc
        have hD := Lib.hid (HR.out k hlt)
        have hN := Lib.hid (show (ns.take k).length < 4294967296 by rw [List.length_take]; omega)
        have hk2 : k < ns.length := by omega
        generalize bb (ws.getD k []) = D at hc hD
        go_wp2_with fail
        refine (hD.out _ (HT.out.keep hS.below)).mono ?_
        rintro e w2 ⟨b, rfl, h2⟩
        have hS2 := hS.call0 h2
        clear h2
        go_wp2_with (at_builtin; refine appI hS2 0 rfl hN.out rfl _ _ rfl rfl _ rfl ?_; intro v5 w5 hS5; simp only [List.set_cons_zero] at hS5)
        rw [← take_nth hk2] at hS5
        go_roundw
        case rel => exact ⟨k + 1, _, by omega, by go_num, rfl, hS5⟩
        case measure => simp [intOf]; omega
      · obtain rfl : k = ws.length := by omega
        rw [h3, List.take_length] at hS
        have hS1 : St w.heap.size w wr [row 2 v (iv ns)] := hS.sub (by simp)
        go_wp2_with fail
        refine (hL.out v _ (HT.out.keep hS1.below) (hS1.rdI 0 rfl)).mono ?_
        rintro e w2 ⟨rfl, h2⟩
        have hS3 := hS1.call0 h2
        clear h2 hS hS1
        go_wp2_with fail
        go_ret2
        exact ⟨_, rfl, hS3.out⟩
end Go.Proofs.YtdlmohigkkdegaaDoor
end

section
/- Walks: what the laws on numbers draw. -/
namespace Go.Proofs.YtdlmohigkkdegaaDoor
set_option linter.unusedSimpArgs false
set_option linter.unusedVariables false
open Go.RowKit

theorem Src.lit {w0 w : World} {cv : Value} {g K : Nat} {L : List Ent} (h : Src w0 w cv g K L) (xs : List Int) (hm : xs.length ≤ 1000) :
    Src w0 (w.alloc (.cells (iv xs).toArray 2)) cv g K (row 2 (.slice (some ⟨w.heap.size, 0, none⟩) xs.length xs.length) (iv xs) :: L) := by
  obtain ⟨p, s, h0, h1, hS⟩ := h
  refine ⟨p, s, h0, h1, ?_⟩
  have h2 := hS.new 2 (iv xs).toArray (by simp [iv_len]; unfold maxLen; omega)
  simp only [List.size_toArray, iv_len] at h2
  refine h2.perm ?_
  refine List.Perm.trans (List.perm_append_comm) ?_
  simp only [List.cons_append, List.nil_append]
  exact List.Perm.swap _ _ _

/-- one of some numbers that are written out -/
theorem among_lit (xs : List Int) (w0 w : World) (cv : Value) (bs : List UInt8) (g K : Nat) (L : List Ent) (hb : RdB w0 cv bs) (h : Src w0 w cv g K L) (hne : 0 < xs.length ∧ xs.length ≤ 1000)
    (hK : K < 1000000000000) :
    Calls Tryd.prog 15 #[.pointer (some ⟨g, 0, none⟩), .slice (some ⟨w.heap.size, 0, none⟩) xs.length xs.length] (w.alloc (.cells (iv xs).toArray 2)) (AmongPost xs fun w' => Src w0 w' cv g (K + 2) L) :=
  among_c w0 _ cv bs g K L _ xs hb (h.lit xs hne.2) hne.1 hK

/-- some number, and the source goes on -/
def Some1 (R : World → Prop) (e : Ending) (w' : World) : Prop := ∃ x : Int, e = .returned (.int .i64 x) ∧ R w'
theorem b10Long_c (w : World) (cv : Value) (bs : List UInt8) (hb : RdB w cv bs) :
    Calls Tryd.prog 4 #[cv] w fun e w' => e = .returned (.bool (decide (1048576 < bs.length))) ∧ w = w' := by
  have hln := hb.len
  go_enter Tryd.func4, Tryd.ntmps4
  go_wp2_with fail
  go_ret
  exact ⟨ret_bool (by simp; omega), rfl⟩

end Go.Proofs.YtdlmohigkkdegaaDoor
end

section
/- Slices of slices of integers. -/
namespace Go.Proofs.YtdlmohigkkdegaaDoor
set_option linter.unusedSimpArgs false
set_option linter.unusedVariables false
open Go.RowKit

def vat (us : List Value) (j : Nat) : Value := us.getD j undef
def xat (xss : List (List Int)) (j : Nat) : List Int := xss.getD j []
/-- a slice with the cells us, each of which reads as a list of integers -/
def RII (w : World) (v : Value) (us : List Value) (xss : List (List Int)) : Prop :=
  Rd w v us ∧ us.length = xss.length ∧ ∀ j, j < xss.length → RdI w (vat us j) (xat xss j)

theorem IsSl.sh {v : Value} {n : Nat} (h : IsSl v n) : ∃ a c, v = .slice a n c := by obtain ⟨a, c, hv, _⟩ := h; exact ⟨a, c, hv⟩
theorem IsSl.cells {v : Value} {n : Nat} (h : IsSl v n) : v.cells = #[v] := by obtain ⟨a, c, rfl, _⟩ := h; rfl
theorem IsSl.one {v : Value} {n : Nat} (h : IsSl v n) : v.oneCell' = true := by obtain ⟨a, c, rfl, _⟩ := h; rfl

section
variable {w w' : World} {v : Value} {us : List Value} {xss : List (List Int)}
theorem RII.le (h : RII w v us xss) : xss.length ≤ 9223372036854775807 := by have := h.1.sl.le; rwa [h.2.1] at this
theorem RII.cell (h : RII w v us xss) (j : Nat) (hj : j < xss.length) : w.cell? (el v j) = some (vat us j) :=
  Rd.cell h.1 (by rw [h.2.1]; exact hj)
theorem RII.row (h : RII w v us xss) (j : Nat) (hj : j < xss.length) : RdI w (vat us j) (xat xss j) := h.2.2 j hj
theorem RII.keep (h : RII w v us xss) (hb : Below w.heap.size w w') : RII w' v us xss := ⟨h.1.keep hb, h.2.1, fun j hj => (h.2.2 j hj).keep hb⟩
end
section
variable {ops : Array Oper} {rest : List Oper} {o : Oper} {a : Act} {Q : Exit → Act → World → Prop} {B : Nat} {w0 w : World} {L : List Ent}
end
end Go.Proofs.YtdlmohigkkdegaaDoor
end

section
/- The source of choices: what lies beside it. -/
namespace Go.Proofs.YtdlmohigkkdegaaDoor
set_option linter.unusedSimpArgs false
set_option linter.unusedVariables false
open Go.RowKit

theorem Src.call {w0 w w' : World} {cv : Value} {g K : Nat} {L L' : List Ent} (h : Src w0 w cv g K L) (h' : St w.heap.size w w' L') : Src w0 w' cv g K (L ++ L') := by
  obtain ⟨p, s, h0, h1, hS⟩ := h
  exact ⟨p, s, h0, h1, hS.call h'⟩
theorem Src.sub {w0 w : World} {cv : Value} {g K : Nat} {L L' : List Ent} (h : Src w0 w cv g K L) (h' : L'.Sublist L) : Src w0 w cv g K L' := by
  obtain ⟨p, s, h0, h1, hS⟩ := h
  exact ⟨p, s, h0, h1, hS.sub (h'.cons_cons _)⟩
theorem Src.rdI {w0 w : World} {cv : Value} {g K : Nat} {L : List Ent} (h : Src w0 w cv g K L) (i : Nat) {e : TypeId} {v : Value} {xs : List Int} (hi : L[i]? = some (row e v (iv xs))) : RdI w v xs := by
  obtain ⟨p, s, h0, h1, hS⟩ := h
  exact hS.rdI (i + 1) hi

theorem Src.perm {w0 w : World} {cv : Value} {g K : Nat} {L L' : List Ent} (h : Src w0 w cv g K L) (h' : L.Perm L') : Src w0 w cv g K L' := by
  obtain ⟨p, s, h0, h1, hS⟩ := h
  exact ⟨p, s, h0, h1, hS.perm (h'.cons _)⟩
theorem Src.call0 {w0 w w' : World} {cv : Value} {g K : Nat} {L : List Ent} (h : Src w0 w cv g K L) (h' : St w.heap.size w w' []) : Src w0 w' cv g K L := by
  have := h.call h'; rwa [List.append_nil] at this
theorem Src.rd {w0 w : World} {cv : Value} {g K : Nat} {L : List Ent} (h : Src w0 w cv g K L) (i : Nat) {e : TypeId} {v : Value} {us : List Value} (hi : L[i]? = some (row e v us)) : Rd w v us := by
  obtain ⟨p, s, h0, h1, hS⟩ := h
  exact hS.rd (i + 1) hi
theorem Src.box {w0 w : World} {cv : Value} {g K : Nat} {L : List Ent} (h : Src w0 w cv g K L) (i : Nat) {e : TypeId} {gf : Nat} {us : List Value} (hi : L[i]? = some (Go.Proofs.YtdlmohigkkdegaaDoor.box e gf us)) (j : Nat) {u : Value} (hj : us[j]? = some u) : w.cell? ⟨gf, j, none⟩ = some u := by
  obtain ⟨p, s, h0, h1, hS⟩ := h
  exact hS.bcell (i + 1) hi j hj
theorem Src.bfree {w0 w : World} {cv : Value} {g K : Nat} {L : List Ent} (h : Src w0 w cv g K L) (i : Nat) {e : TypeId} {gf : Nat} {us : List Value} (hi : L[i]? = some (Go.Proofs.YtdlmohigkkdegaaDoor.box e gf us)) (j : Nat) : w.frozen? ⟨gf, j, none⟩ = false := by
  obtain ⟨p, s, h0, h1, hS⟩ := h
  exact hS.bfree (i + 1) hi j
theorem Src.bstore {w0 w : World} {cv : Value} {g K : Nat} {L : List Ent} (h : Src w0 w cv g K L) (i : Nat) {e : TypeId} {gf : Nat} {us : List Value} (hi : L[i]? = some (Go.Proofs.YtdlmohigkkdegaaDoor.box e gf us)) (j : Nat) (u : Value) :
    Src w0 (w.setCell ⟨gf, j, none⟩ u) cv g K (L.set i (Go.Proofs.YtdlmohigkkdegaaDoor.box e gf (us.set j u))) := by
  obtain ⟨p, s, h0, h1, hS⟩ := h
  exact ⟨p, s, h0, h1, hS.bstore (i + 1) hi j u⟩
theorem Src.drew {w0 w : World} {cv : Value} {g K : Nat} {L : List Ent} (h : Src w0 w cv g K L) : Src w0 w.drew cv g K L := by
  obtain ⟨p, s, h0, h1, hS⟩ := h
  exact ⟨p, s, h0, h1, hS.drew⟩
end Go.Proofs.YtdlmohigkkdegaaDoor
end

section
/- Walks: lists of numbers that are drawn for texts. -/
namespace Go.Proofs.YtdlmohigkkdegaaDoor
set_option linter.unusedSimpArgs false
set_option linter.unusedVariables false
open Go.RowKit

/-- some row at the front of what is owned, and the source goes on -/
def LisS (w0 : World) (cv : Value) (g K m : Nat) (L : List Ent) (e : Ending) (w' : World) : Prop := ∃ v xs, e = .returned v ∧ xs.length ≤ m ∧ Src w0 w' cv g K (row 2 v (iv xs) :: L)
set_option maxHeartbeats 4000000 in
set_option maxRecDepth 100000 in
theorem l01DrawWide_c (w0 w : World) (cv : Value) (bs : List UInt8) (g K : Nat) (L : List Ent) (hb : RdB w0 cv bs) (h : Src w0 w cv g K L) (hK : K < 10000000000) :
    Calls Tryd.prog 27 #[.pointer (some ⟨g, 0, none⟩)] w (Some1 fun w' => Src w0 w' cv g (K + 20) L) := by
  go_enter Tryd.func27, Tryd.ntmps27
  go_wp2_with fail
  refine (pick_c w0 w cv bs g _ _ 4 hb h (by omega)).mono ?_
  rintro e w2 ⟨q, hq0, hq1, rfl, h2⟩
  clear h
  by_cases e0 : q = 0
  · subst e0
    go_wp2_with fail
    refine (among_lit [-9223372036854775808, 9223372036854775807, 4294967296, -4294967296, 2147483648, -2147483649, 4294967295] w0 w2 cv bs g _ _ hb h2 (by simp) (by omega)).mono ?_
    rintro e w3 ⟨y, _, rfl, h3⟩
    go_wp2_with fail
    go_ret
    exact ⟨y, rfl, h3.mono (by omega)⟩
  · have f0 : (q == 0) = false := eq_f e0
    by_cases e1 : q = 1
    · subst e1
      go_wp2_with fail
      refine (next_c w0 w2 cv bs g _ _ hb h2 (by omega)).mono ?_
      rintro e w3 ⟨y, _, _, rfl, h3⟩
      clear h2
      go_wp2_with fail
      go_loopw [3, 4] (fun n i wr => ∃ (k : Nat) (y : Int), k ≤ 7 ∧ i = .int .i64 k ∧ n = .int .i64 y ∧ Src w0 wr cv g (K + 3 + k) L) (fun _ i _ => 7 - (intOf i).toNat)
      case atStart => exact ⟨0, y, by omega, rfl, rfl, h3⟩
      case round =>
        clear h3
        obtain ⟨k, y, hk, rfl, rfl, h4⟩ := hrel
        by_cases hlt : k < 7
        · have hki : (k : Int) < 7 := by omega
          go_wp2_with fail
          refine (next_c w0 _ cv bs g _ _ hb h4 (by omega)).mono ?_
          rintro e w5 ⟨z, _, _, rfl, h5⟩
          go_wp2_with fail
          go_roundw
          case rel => exact ⟨k + 1, _, by omega, by go_num, rfl, h5.mono (by omega)⟩
          case measure => simp [intOf]; omega
        · obtain rfl : k = 7 := by omega
          go_wp2_with fail
          go_ret
          exact ⟨_, rfl, h4.mono (by omega)⟩
    · have f1 : (q == 1) = false := eq_f e1
      go_wp2_with fail
      refine (pick_c w0 w2 cv bs g _ _ 41 hb h2 (by omega)).mono ?_
      rintro e w3 ⟨y, _, _, rfl, h3⟩
      go_wp2_with fail
      go_ret
      exact ⟨_, rfl, h3.mono (by omega)⟩
set_option maxHeartbeats 4000000 in
set_option maxRecDepth 100000 in
theorem l01DrawList_c (w0 w : World) (cv : Value) (bs : List UInt8) (g K : Nat) (L : List Ent) (hb : RdB w0 cv bs) (h : Src w0 w cv g K L) (hK : K < 1000000000) :
    Calls Tryd.prog 13 #[.pointer (some ⟨g, 0, none⟩)] w (LisS w0 cv g (K + 100) 6 L) := by
  obtain ⟨p0, s0, q0, q1, hS⟩ := h
  have hE := (hS.new 2 #[] (by simp)).perm (L' := row 2 (.slice (some ⟨w.heap.size, 0, none⟩) 0 0) (iv []) :: box 52 g [cv, .int .i64 p0, .int .u64 s0] :: L) (List.perm_append_comm (l₁ := box 52 g [cv, .int .i64 p0, .int .u64 s0] :: L) (l₂ := [row 2 (.slice (some ⟨w.heap.size, 0, none⟩) 0 0) (iv [])]))
  have h1 : Src w0 _ cv g K (row 2 (.slice (some ⟨w.heap.size, 0, none⟩) 0 0) (iv []) :: L) := ⟨p0, s0, q0, q1, hE.perm (List.Perm.swap _ _ _)⟩
  clear hE hS q0 q1
  go_enter Tryd.func13, Tryd.ntmps13
  go_wp2_with fail
  refine (pick_c w0 _ cv bs g _ _ 6 hb h1 (by omega)).mono ?_
  rintro e w2 ⟨z, z0, z1, rfl, h2⟩
  obtain ⟨m, rfl⟩ := Int.eq_ofNat_of_zero_le z0
  have hm : m ≤ 5 := by omega
  clear h1 z0 z1
  go_wp2_with fail
  go_loopw [3, 4] (fun o kv wr => ∃ (j : Nat) (v : Value) (xs : List Int), v = o ∧ kv = .int .i64 j ∧ j ≤ 5 ∧ Hid (xs.length + j ≤ 5) ∧ Src w0 wr cv g (K + 2 + 10 * (5 - j)) (row 2 v (iv xs) :: L)) (fun _ kv _ => (intOf kv).toNat)
  case atStart => exact ⟨m, _, [], rfl, rfl, hm, by simpa [Hid] using hm, h2.mono (by omega)⟩
  case round =>
    clear h2 hm
    obtain ⟨j, v, xs, rfl, rfl, hj, hl, h3⟩ := hrel
    by_cases hj0 : 0 < j
    · have hji : (0 : Int) < (j : Int) := by omega
      go_wp2_with fail
      refine (pick_c w0 _ cv bs g _ _ 5 hb h3 (by omega)).mono ?_
      rintro e w4 ⟨y, y0, y1, rfl, h4⟩
      obtain ⟨p1, s1, r0, r1, hS⟩ := h4
      have hN := Lib.hid (show xs.length < 4294967296 by have := hl.out; omega)
      go_wp2_with (at_builtin; refine appI hS 1 rfl hN.out rfl _ _ rfl rfl _ rfl ?_; intro v5 w5 hS5; simp only [List.set_cons_succ, List.set_cons_zero] at hS5)
      have h6 : Src w0 w5 cv g _ (row 2 v5 (iv (xs ++ [y - 1])) :: L) := ⟨p1, s1, r0, r1, hS5⟩
      have hl2 : Hid ((xs ++ [y - 1]).length + (j - 1) ≤ 5) := Lib.hid (by have := hl.out; simp; omega)
      go_roundw
      case rel => exact ⟨j - 1, _, _, rfl, by go_num, by omega, hl2, h6.mono (by omega)⟩
      case measure => simp [intOf]; omega
    · obtain rfl : j = 0 := by omega
      go_wp2_with fail
      refine (one_c w0 _ cv bs g _ _ 9 hb h3 (by omega)).mono ?_
      rintro e w4 ⟨b, rfl, h4⟩
      clear h3
      cases b
      · go_wp2_with fail
        go_ret
        exact ⟨_, xs, rfl, by have := hl.out; omega, h4.mono (by omega)⟩
      · go_wp2_with fail
        refine (l01DrawWide_c w0 _ cv bs g _ _ hb h4 (by omega)).mono ?_
        rintro e w5 ⟨y, rfl, h5⟩
        obtain ⟨p1, s1, r0, r1, hS⟩ := h5
        have hN := Lib.hid (show xs.length < 4294967296 by have := hl.out; omega)
        go_wp2_with (at_builtin; refine appI hS 1 rfl hN.out rfl _ _ rfl rfl _ rfl ?_; intro v6 w6 hS6; simp only [List.set_cons_succ, List.set_cons_zero] at hS6)
        have h6 : Src w0 w6 cv g _ (row 2 v6 (iv (xs ++ [y])) :: L) := ⟨p1, s1, r0, r1, hS6⟩
        go_ret
        exact ⟨_, _, rfl, by have := hl.out; simp; omega, h6.mono (by omega)⟩
set_option maxHeartbeats 8000000 in
set_option maxRecDepth 100000 in
theorem DrawListText_c (w : World) (cv : Value) (bs : List UInt8) (hb : RdB w cv bs) :
    Calls Tryd.prog 5 #[cv] w fun e w' => ∃ v xs, e = .returned v ∧ xs.length ≤ 102 ∧ St w.heap.size w w' [row 2 v (iv xs)] := by
  go_enter Tryd.func5, Tryd.ntmps5
  go_wp2_with fail
  refine (l00From_c w cv bs hb).mono ?_
  rintro e w1 ⟨rfl, h1⟩
  go_wp2_with fail
  refine (l01DrawList_c w w1 cv bs _ _ _ hb h1 (by omega)).mono ?_
  rintro e w2 ⟨v, xs, rfl, hl, h2⟩
  clear h1
  go_wp2_with fail
  refine (one_c w _ cv bs _ _ _ 12 hb h2 (by omega)).mono ?_
  rintro e w3 ⟨b, rfl, h3⟩
  clear h2
  cases b
  · go_wp2_with fail
    refine (one_c w _ cv bs _ _ _ 6 hb h3 (by omega)).mono ?_
    rintro e w4 ⟨b2, rfl, h4⟩
    clear h3
    cases b2
    · go_wp2_with fail
      go_ret
      exact ⟨_, xs, rfl, by omega, h4.st⟩
    · go_wp2_with fail
      refine (among_lit [999999999, -999999999, 1000000000, -1000000000] w _ cv bs _ _ _ hb h4 (by simp) (by omega)).mono ?_
      rintro e w5 ⟨y, _, rfl, h5⟩
      obtain ⟨p1, s1, r0, r1, hS⟩ := h5
      have hN := Lib.hid (show xs.length < 4294967296 by omega)
      go_wp2_with (at_builtin; refine appI hS 1 rfl hN.out rfl _ _ rfl rfl _ rfl ?_; intro v6 w6 hS6; simp only [List.set_cons_succ, List.set_cons_zero] at hS6)
      go_ret
      exact ⟨_, xs ++ [y], rfl, by simp; omega, hS6.sub (List.sublist_cons_self _ _)⟩
  · go_wp2_with fail
    refine (among_lit [100, 101, 99] w _ cv bs _ _ _ hb h3 (by simp) (by omega)).mono ?_
    rintro e w4 ⟨m, hm, rfl, h4⟩
    have hm1 : m ≤ 101 := by simp at hm; omega
    clear h3 hm
    go_wp2_with fail
    go_loopg [4] (200 - xs.length) (fun g o wr => ∃ (v : Value) (xs : List Int), v = o ∧ 200 - xs.length = g ∧ Hid (xs.length ≤ 101) ∧ Src w wr cv w.heap.size (400 + 10 * xs.length) [row 2 v (iv xs)])
    case atStart => exact ⟨_, xs, rfl, rfl, Lib.hid (by omega), h4.mono (by omega)⟩
    case round =>
      clear h4 hl
      obtain ⟨v, xs, rfl, hg, hl, h5⟩ := hrel
      have hgl := hl.out
      obtain ⟨p1, s1, r0, r1, hS⟩ := h5
      have eL := (hS.rdI 1 rfl).len
      have h5 : Src w _ cv w.heap.size (400 + 10 * xs.length) [row 2 v (iv xs)] := ⟨p1, s1, r0, r1, hS⟩
      by_cases hlt : (xs.length : Int) < m
      · go_wp2_with fail
        refine (pick_c w _ cv bs _ _ _ 9 hb h5 (by omega)).mono ?_
        rintro e w6 ⟨y, y0, y1, rfl, h6⟩
        obtain ⟨p2, s2, r2, r3, hS6⟩ := h6
        have hN := Lib.hid (show xs.length < 4294967296 by omega)
        go_wp2_with (at_builtin; refine appI hS6 1 rfl hN.out rfl _ _ rfl rfl _ rfl ?_; intro v7 w7 hS7; simp only [List.set_cons_succ, List.set_cons_zero] at hS7)
        have h7 : Src w w7 cv w.heap.size _ [row 2 v7 (iv (xs ++ [y]))] := ⟨p2, s2, r2, r3, hS7⟩
        have hl7 : Hid ((xs ++ [y]).length ≤ 101) := Lib.hid (by simp; omega)
        go_roundg (200 - (xs ++ [y]).length)
        case measure => simp; omega
        case rel => exact ⟨_, xs ++ [y], rfl, rfl, hl7, h7.mono (by simp; omega)⟩
      · go_wp2_with fail
        refine (one_c w _ cv bs _ _ _ 6 hb h5 (by omega)).mono ?_
        rintro e w6 ⟨b2, rfl, h6⟩
        clear h5
        cases b2
        · go_wp2_with fail
          go_ret
          exact ⟨_, xs, rfl, by omega, h6.st⟩
        · go_wp2_with fail
          refine (among_lit [999999999, -999999999, 1000000000, -1000000000] w _ cv bs _ _ _ hb h6 (by simp) (by omega)).mono ?_
          rintro e w7 ⟨y, _, rfl, h7⟩
          obtain ⟨p2, s2, r2, r3, hS7⟩ := h7
          have hN := Lib.hid (show xs.length < 4294967296 by omega)
          go_wp2_with (at_builtin; refine appI hS7 1 rfl hN.out rfl _ _ rfl rfl _ rfl ?_; intro v8 w8 hS8; simp only [List.set_cons_succ, List.set_cons_zero] at hS8)
          go_ret
          exact ⟨_, xs ++ [y], rfl, by simp; omega, hS8.sub (List.sublist_cons_self _ _)⟩
end Go.Proofs.YtdlmohigkkdegaaDoor
end

section
/- The law FnLists, walked. -/
namespace Go.Proofs.YtdlmohigkkdegaaDoor
set_option linter.unusedSimpArgs false
set_option linter.unusedVariables false
open Go Go.RowKit

set_option maxHeartbeats 4000000 in
set_option maxRecDepth 100000 in
theorem ReadList_nil (w : World) : Calls Tryd.prog 7 #[.string (bb [45])] w fun e w' => e = .returned (.tuple #[.slice none 0 0, .bool true]) ∧ w' = w := by
  have hl0 : (bb [45]).toList = [45] := (Lib.toList_data _).trans (bb_data _)
  have f0 : ((bb [45]).toList == [45]) = true := by rw [hl0]; decide
  clear hl0
  generalize bb [45] = S at *
  go_enter Tryd.func7, Tryd.ntmps7
  go_wp2_with fail
  go_ret2
  exact ⟨rfl, rfl⟩
/-- what reading a text again gives -/
theorem ReadBack_c (xs : List Int) (w : World) (hT : Tabs w) (h : TxOk xs) : Calls Tryd.prog 7 #[.string (bb (txt xs))] w fun e w' => ∃ v, e = .returned (.tuple #[v, .bool true]) ∧ RdI w' v xs ∧ St w.heap.size w w' [] := by
  cases xs with
  | nil =>
    rw [txt_nil]
    refine (ReadList_nil w).mono ?_
    rintro e w' ⟨rfl, rfl⟩
    exact ⟨_, rfl, RdI.nil _, St.refl _⟩
  | cons x xs =>
    refine (ReadList_c _ _ w hT (parts_ok h)).mono ?_
    intro e w' hr
    unfold ReadsL at hr
    rw [if_pos rfl] at hr
    obtain ⟨v, rfl, hS⟩ := hr
    exact ⟨v, rfl, hS.rdI 0 rfl, hS.out⟩
theorem ReadNo_c (w : World) (hT : Tabs w) : Calls Tryd.prog 7 #[.string (bb [])] w fun e w' => ∃ v, e = .returned (.tuple #[v, .bool false]) ∧ St w.heap.size w w' [] := by
  refine (ReadList_c _ _ w hT parts_no).mono ?_
  intro e w' hr
  unfold ReadsL at hr
  have hne : txt [0] ≠ [] := (txt_sign (x := 0) (xs := []) ⟨by simp, by simp [InT]⟩).2
  rw [if_neg hne] at hr
  exact hr
set_option maxHeartbeats 4000000 in
set_option maxRecDepth 100000 in
theorem FnLists_c (w : World) (cv : Value) (bs : List UInt8) (hb : RdB w cv bs) (hT : Tabs w) : Calls Tryd.prog 3 #[cv] w fun e w' => e = .returned (.bool true) ∧ St w.heap.size w w' [] := by
  go_enter Tryd.func3, Tryd.ntmps3
  go_wp2_with fail
  refine (b10Long_c w cv bs hb).mono ?_
  rintro e w1 ⟨rfl, rfl⟩
  by_cases hl : 1048576 < bs.length
  · rw [decide_eq_true hl]
    go_wp2_with fail
    go_ret
    exact ⟨rfl, St.refl _⟩
  · rw [decide_eq_false hl]
    go_wp2_with fail
    refine (DrawListText_c w cv bs hb).mono ?_
    rintro e w1 ⟨v, xs, rfl, hxl, hS⟩
    have hrd := hS.rdI 0 rfl
    have hST := Lib.hid hS
    clear hS
    have e1 := hrd.len
    go_wp2_with fail
    refine (ListText_c v xs w1 (hT.keep hST.out.below) hrd).mono ?_
    rintro e w2 ⟨rfl, h2⟩
    have hS2 := hST.out.call0 h2
    have hrd2 := hS2.rdI 0 rfl
    have hT2 := hT.keep hS2.below
    clear h2
    by_cases hk : TxOk xs
    · have HR := Lib.hid (ReadBack_c xs w2 hT2 hk)
      have Hk := Lib.hid hk
      have f0 : (bb (txt xs)).toList.isEmpty = false := by
        rw [Lib.toList_data, bb_data]
        cases xs with
        | nil => rw [txt_nil]; rfl
        | cons x xs => cases e : txt (x :: xs) with
          | nil => exact absurd e (txt_sign hk).2
          | cons _ _ => rfl
      clear hk
      generalize bb (txt xs) = S at *
      go_wp2_with fail
      refine HR.out.mono ?_
      rintro e w3 ⟨vb, rfl, hvb, h3⟩
      have hS3 := hS2.call0 h3
      have hrd3 := hS3.rdI 0 rfl
      clear HR
      go_wp2_with fail
      refine (b10Nums_c vb v xs xs w3 hvb hrd3).mono ?_
      rintro e w4 ⟨rfl, h4⟩
      have hS4 := hS3.call0 h4
      rw [decide_eq_true rfl]
      clear h3 h4 hS3 hS2
      go_wp2_with fail
      go_loopw [7] (fun iv' wr => ∃ k : Nat, k ≤ xs.length ∧ iv' = .int .i64 k ∧ St w.heap.size w wr [row 2 v (iv xs)]) (fun i _ => xs.length - (intOf i).toNat)
      case atStart => exact ⟨0, by omega, rfl, hS4⟩
      case round =>
        clear hS4
        obtain ⟨k, hk, rfl, hS⟩ := hrel
        by_cases hlt : k < xs.length
        · have hki : (k : Int) < (xs.length : Int) := by omega
          have hr := hS.rdI 0 rfl
          have hr1 := hr.ixe (k : Int) k rfl hlt
          have hc := hr.cell k hlt
          have hx := Hk.out.2 _ (nth_mem hlt)
          have hD := Lib.hid (fun W (hW : Tabs W) => Decimal_c (nth xs k) W hW hx)
          have hR := Lib.hid (fun W (hW : Tabs W) => ReadDecimal_c (nth xs k) W hW hx)
          clear hx
          go_wp2_with fail
          refine (hD.out _ (hT.keep hS.below)).mono ?_
          rintro e w5 ⟨rfl, h5⟩
          have hS5 := hS.call0 h5
          go_wp2_with fail
          refine (hR.out _ (hT.keep hS5.below)).mono ?_
          rintro e w6 ⟨rfl, h6⟩
          have hS6 := hS5.call0 h6
          have hc6 := (hS6.rdI 0 rfl).cell k hlt
          clear hc hr hS hS5 h5 h6
          go_wp2_with fail
          go_roundw
          case rel => exact ⟨k + 1, by omega, by go_num, hS6⟩
          case measure => simp [intOf]; omega
        · obtain rfl : k = xs.length := by omega
          go_wp2_with fail
          go_ret
          exact ⟨rfl, hS.out⟩
    · rw [txt_no hk]
      have HR := Lib.hid (ReadNo_c w2 hT2)
      have hN := Lib.hid (fun W (hr : RdI W v xs) => sListText_no v xs W hr hk)
      have f0 : (bb []).toList.isEmpty = true := by rw [Lib.toList_data, bb_data]; rfl
      have f1 : (bb []).toList = [] := by rw [Lib.toList_data, bb_data]
      unfold GivesS at hN
      generalize bb [] = S at *
      go_wp2_with fail
      refine HR.out.mono ?_
      rintro e w3 ⟨vb, rfl, h3⟩
      have hS3 := hS2.call0 h3
      clear HR h3 hS2
      go_wp2_with fail
      refine (hN.out _ (hS3.rdI 0 rfl)).mono ?_
      rintro e w4 ⟨rfl, h4⟩
      have hS4 := hS3.call0 h4
      go_wp2_with fail
      go_ret
      exact ⟨rfl, hS4.out⟩
end Go.Proofs.YtdlmohigkkdegaaDoor
end

section
/- How arguments that come in read. How bytes that come in read. -/
namespace Go.Proofs.YtdlmohigkkdegaaDoor
set_option linter.unusedSimpArgs false
set_option linter.unusedVariables false
open Go.RowKit


/-- what came in as a slice of integers: nothing, or a row of numbers that fit -/
def IsRow (k : IntKind) (w : World) (a : Option Addr) (len cap : Nat) (zs : List Int) : Prop :=
  (a = none ∧ len = 0 ∧ cap = 0 ∧ zs = []) ∨
  ∃ x, a = some x ∧ len ≤ cap ∧ cap ≤ maxLen ∧ zs.length = cap ∧ (∀ i, i < zs.length → w.cell? (x.add i) = some (.int k (zs.getD i 0))) ∧ ∀ n ∈ zs, (Lit.int k n).wf = true

theorem IsRow.rd {k : IntKind} {w : World} {a : Option Addr} {len cap : Nat} {zs : List Int} (h : IsRow k w a len cap zs) : Rd w (.slice a len cap) ((zs.take len).map (Value.int k)) := by
  rcases h with ⟨rfl, rfl, rfl, rfl⟩ | ⟨x, rfl, h1, h2, h3, h4, h5⟩
  · exact Rd.nil w
  · have hl : ((zs.take len).map (Value.int k)).length = len := by simp; omega
    refine ⟨⟨some x, cap, by rw [hl], by omega, h2, .inr (by simp)⟩, ?_⟩
    intro i u hu
    have hi : i < len := by have := (List.getElem?_eq_some_iff.1 hu).1; omega
    have := h4 i (by omega)
    simp only [List.getElem?_map, List.getElem?_take, hi, if_true] at hu
    rw [List.getElem?_eq_getElem (by omega)] at hu
    simp at hu
    simp only [el]
    rw [this, ← hu]
    simp [List.getD, List.getElem?_eq_getElem (show i < zs.length by omega)]


theorem IsRow.rdB {w : World} {a : Option Addr} {len cap : Nat} {zs : List Int} (h : IsRow .u8 w a len cap zs) : ∃ bs, RdB w (.slice a len cap) bs := by
  refine ⟨(zs.take len).map fun n => UInt8.ofNat n.toNat, ?_⟩
  have h1 := h.rd
  have hw : ∀ n ∈ zs, 0 ≤ n ∧ n ≤ 255 := by
    rcases h with ⟨_, _, _, rfl⟩ | ⟨_, _, _, _, _, _, h5⟩
    · simp
    · intro n hn; have := h5 n hn; simpa [Lit.wf, IntKind.min, IntKind.max, IntKind.signed, IntKind.bits] using this
  unfold RdB bv
  rw [List.map_map]
  rw [List.map_congr_left (g := Value.int .u8)]
  · exact h1
  · intro n hn
    have := hw n (List.mem_of_mem_take hn)
    simp only [Function.comp]
    congr 1
    rw [UInt8.toNat_ofNat']
    omega

end Go.Proofs.YtdlmohigkkdegaaDoor
end

section
/- Frames of rows that list package-level variables. -/
namespace Go.Proofs.YtdlmohigkkdegaaDoor
set_option linter.unusedSimpArgs false
set_option linter.unusedVariables false
open Go Go.ChangeShapes Go.WideShapes Go.ChangeAt Go.RowKit

theorem laid_tail {P : Program} {x : String × DataW Unit} {l : List (String × DataW Unit)} {w : World} (h : laidMet P (x :: l) w) : laidMet P l w := by
  obtain ⟨ps, ⟨g, t, cs, fuel, p, q, _, _, _, _, hr, rfl⟩, hn, hc⟩ := h
  exact ⟨q, hr, hn.sublist (List.sublist_append_right _ _), fun b off hb => hc b off (List.mem_append_right _ hb)⟩

/-- a row's call, its start's shape and its listed variables at hand -/
theorem ret_laid {H : Type} {enc : TypeId × Value → H} {a : Assume} {C : Checked} {os : Os} {f : FuncId} {fn : Func} {s : ChangeSpec} {conds : List PathCond} {apart fresh handsOn again : Bool} {X : World → Prop}
    (hX : ∀ w w' : World, w.heap = w'.heap → X w → X w') (own : ownKnob C.prog.godebug = none) (started : os.Started) (noInit : C.prog.inits.idxOf? f = none) (hfn : C.prog.funcs[f]? = some fn)
    (witness : ∃ (w : World) (tape : Tape) (i : Input), w.os = os ∧ (w.forCall tape i).Shaped C.prog ∧ i.vars = [] ∧ Input.okWide C.prog (w.forCall tape i) .any w.heap.size f i ∧
      ((s.pre enc C.prog fn conds apart (w.forCall tape i).memory i.args ∧ X (w.forCall tape i).memory) ∧ sizedMet enc C.prog fn (OpenSpec.ofChange s) apart (w.forCall tape i).memory i.args) ∧ a.holds C.prog (lone (Frame.enter C.prog f i.args .normal) [] (w.forCall tape i)))
    (law : ∀ (W : World) (base : Nat) (args : Array Value) (ds gs : List (DataW H)) (before : List MemPlace),
      (∀ (j : Nat) t v, fn.params[j]? = some t → args[j]? = some v → Value.okWide C.prog W .any base t v) →
      DataW.Whole enc C.prog fn.params.toList s.vars apart W args.toList ds gs before → X W → W.ShapedOpen C.prog →
      Calls C.prog f args W fun e W' => ∃ v, e = .returned v ∧ s.post enc C.prog fn apart fresh handsOn again W args v W') :
    ReturnsInHanded a C os f .any (fun w args => (s.pre enc C.prog fn conds apart w args ∧ X w) ∧ sizedMet enc C.prog fn (OpenSpec.ofChange s) apart w args) (s.post enc C.prog fn apart fresh handsOn again) := by
  refine returnsInHanded_of_calls own started noInit witness ?_
  intro w tape i _ hsh _ hok hpre _
  obtain ⟨_, _, _, fn', hf', _, _, _, _, hval⟩ := hok
  obtain rfl : fn' = fn := Option.some.inj (hf'.symm.trans hfn)
  obtain ⟨⟨⟨ds, gs, before, hw, _⟩, hx⟩, _⟩ := hpre
  refine (law (w.forCall tape i) w.heap.size i.args ds gs before hval (DataW.Whole.of_heap (w' := w.forCall tape i) (by rfl) hw) (hX (w.forCall tape i).memory _ (by rfl) hx) hsh).mono fun e W' ⟨v, he, hp⟩ => ?_
  subst he
  exact ChangeSpec.post_blind hp
end Go.Proofs.YtdlmohigkkdegaaDoor
end

section
/- FnLists holds: for every input the call returns true and leaves its arguments as they are; and the tied card. -/
namespace Go.Proofs.YtdlmohigkkdegaaDoor.fnLists
set_option linter.unusedSimpArgs false
set_option linter.unusedVariables false
open Go Go.ChangeShapes Go.WideShapes Go.ChangeAt Go.RowKit
set_option linter.unusedVariables false

theorem own : ownKnob Tryd.prog.godebug = none := by kernel_rfl
theorem laidOut : laidOutB Tryd.prog = true := by kernel_rfl
theorem tabs {W : World} (h : laidMetH Tryd.prog Rows.fnListsRow.laid W) (hs : W.ShapedOpen Tryd.prog) : Tabs W := by
  rw [MakeChecks.laidMetH_plain _ _ _ (by kernel_rfl)] at h
  have h3 := laid_tail (laid_tail h)
  refine ⟨Lib.tabIs_of_head (g := 2) (t := 97) (e := 50) (n := 20) (show Tryd.prog.globalNamed "internal/strconv.uint64pow10" = some 2 by kernel_rfl) (by kernel_rfl) (by kernel_rfl) (by kernel_rfl) (by kernel_rfl) (by kernel_rfl) (show laidMet Tryd.prog (("internal/strconv.uint64pow10", Lib.tabData .u64 Lib.pow10Tab) :: _) W from h3), ?_⟩
  exact cell_of_shapedOpen_int (zero := #[.int .i64 0]) (t := 3) hs (of_decide_eq_true (by kernel_rfl)) (by kernel_rfl) rfl (by kernel_rfl) (by kernel_rfl) Tryd.underlying3

set_option maxRecDepth 100000 in
theorem lifted (os : Os) (started : os.Started) (H : Type) (enc : TypeId × Value → H) :
    ReturnsInHanded {} Tryd.checked os 3 .any (fun w args => (Rows.fnListsSpec.pre enc Tryd.prog Tryd.f3 Rows.fnListsRow.domain false w args ∧ laidMetH Tryd.prog Rows.fnListsRow.laid w) ∧ sizedMet enc Tryd.prog Tryd.f3 (OpenSpec.ofChange Rows.fnListsSpec) false w args)
      (Rows.fnListsSpec.post enc Tryd.prog Tryd.f3 false true false false) := by
  refine ret_laid (C := Tryd.checked) (X := fun w => laidMetH Tryd.prog Rows.fnListsRow.laid w) (fun _ _ hh h => h.of_heap hh) own started (by kernel_rfl) Tryd.func3
    (ChangeSpec.witness_shaped (enc := enc) (C := Tryd.checked) (os := os) (X := fun w _ => laidMetH Tryd.prog Rows.fnListsRow.laid w) false (World.laidAll Tryd.prog os Rows.fnListsRow.laid) #[.slice none 0 0] 8 (World.laidAll_os _ _ _)
      (World.shaped_of_ZipB (by kernel_rfl) (by kernel_rfl)) (by kernel_rfl) (by kernel_rfl) (by kernel_rfl)
      (by rw [MakeChecks.laidMetH_plain _ _ _ (by kernel_rfl)]; exact laidMet_laidAll _ (by kernel_rfl) (by kernel_rfl))) ?_
  intro W base args ds gs before hval0 hW hL hsh
  have hval : ∀ (j : Nat) t v, Tryd.f3.params[j]? = some t → args[j]? = some v → Value.okWide Tryd.prog W .any base t v := hval0
  have hT : Tabs W := tabs hL hsh
  have hW' := hW
  obtain ⟨p, q, hA0, hV, rfl, hfz, hnd⟩ := hW
  have hA : DataW.TrodAll enc Tryd.prog W 0 (fun _ => true) true Tryd.f3.params.toList args.toList ds p := hA0
  rw [Tryd.params3] at hA hval
  obtain ⟨v0, vs0, d0, ds0, p0, q0, hargs, rfl, rfl, h0, r0⟩ := trodAll_cons hA
  obtain ⟨rfl, rfl, rfl⟩ := trodAll_nil r0
  obtain rfl : args = #[v0] := by cases args; simp_all
  obtain ⟨rfl, rfl⟩ := trodVars_none hV
  obtain ⟨a0, len0, cap0, rfl⟩ := okWide_slice Tryd.underlying22 (hval 0 22 v0 rfl rfl)
  have k0 := h0
  have lt0 : ∀ x ∈ p0, x.block < W.heap.size := by obtain ⟨m, hm⟩ := k0; exact DataW.trod_lt m _ _ _ hm
  obtain ⟨bs0, rd0⟩ : ∃ bs, RdB W (.slice a0 len0 cap0) bs := by
    obtain ⟨fuel, hf⟩ := h0
    rcases open_ints Tryd.underlying22 Tryd.underlying5 (by kernel_rfl) hf with ⟨hcs, _⟩ | ⟨x, l, c, zs, hcs, _, hl, hm, hz, _, hcell, hwz⟩
    · simp [Value.cells] at hcs
      obtain ⟨rfl, rfl, rfl⟩ := hcs
      exact IsRow.rdB (zs := []) (.inl ⟨rfl, rfl, rfl, rfl⟩)
    · simp [Value.cells] at hcs
      obtain ⟨rfl, rfl, rfl⟩ := hcs
      exact IsRow.rdB (zs := zs) (.inr ⟨_, rfl, hl, hm, by simpa using hz, hcell, hwz⟩)
  clear hA0 hval0
  refine (FnLists_c W _ bs0 rd0 hT).mono fun e W' ⟨he, hst⟩ => ?_
  have bel := hst.below
  subst he
  exact ⟨_, rfl, _, _, _, [], _, [], hW', trodAll_mk1 (shut_bool Tryd.underlying4 _), (trodAll_cons_mk (Below.trod laidOut (by kernel_rfl) (of_decide_eq_true (by kernel_rfl)) k0 bel lt0) trodAll_mk0), rfl, bel.frame _, fun h => by cases h⟩

theorem over : Rows.FnListsSaid :=
  OpenClaim.holds_of_wide 3 Tryd.f3 rfl rfl rfl rfl rfl rfl rfl ⟨rfl, rfl, rfl, rfl, rfl⟩ rfl rfl rfl rfl rfl (by kernel_rfl) Tryd.func3 (by kernel_rfl)
    (of_decide_eq_true (by kernel_rfl)) (by unfold Func.isWrapper; first | (rw [if_pos (by decide +kernel)]; kernel_rfl) | (rw [if_neg (by decide +kernel)]; exact ⟨rfl, rfl⟩))
    (fun os started H enc _ => lifted os started H enc)

theorem proved : Rows.FnListsCardSaid :=
  Claim7.holds_tied_plain_at .later [] [.data, .data, .data, .data, .sentinel, .sentinel, .pinned] true (true, "76c349296d689f16bf7e88f114ea91f01671eaf71ad673beb8bf3d5690cdd7c6") true over (fun _ h => by cases h) (by kernel_rfl) (fun _ h => by cases h) fnLists_row_tie rfl ⟨rfl, rfl⟩ (by kernel_rfl) rfl
    (fun f fn hf hfn => by
      obtain rfl : f = 3 := Option.some.inj ((show Tryd.prog.funcNamed "loop.example/g00920/laws.FnLists" = some 3 by kernel_rfl).symm.trans hf) |>.symm
      obtain rfl : fn = Tryd.f3 := (Option.some.inj (Tryd.func3.symm.trans hfn)).symm
      exact ⟨by kernel_rfl, fun j t ht => by
        rw [Tryd.params3] at ht
        have hm : t ∈ [22] := by simpa using Array.mem_of_getElem? ht
        have hall : ([22].all fun u => !Tryd.prog.wantsStandIn u) = true := by kernel_rfl
        exact (show Tryd.prog.wantsStandIn t = false by simpa using List.all_eq_true.1 hall t hm)⟩)
    (by kernel_rfl)
#print axioms proved
end Go.Proofs.YtdlmohigkkdegaaDoor.fnLists
end
