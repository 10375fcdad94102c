/- Walks: squares that are made. -/
import Derived.Test.YtpfgbbbjldpnnaaSss
import Derived.Test.YtpfgbbbjldpnnaaCF
import Derived.Test.YtpfgbbbjldpnnaaPFok
namespace Go.Proofs.Ytpfgbbbjldpnnaa
set_option linter.unusedSimpArgs false
set_option linter.unusedVariables false
open Go.RowKit

theorem Try.info_iss : (Try.prog.info? 37).map (fun i => (i.zero, i.size, i.bytes)) = some (some (.slice none 0 0), 1, 24) := by kernel_rfl
section
variable {ops : Array Oper} {rest : List Oper} {o : Oper} {a : Act} {Q : Exit → Act → World → Prop} {B : Nat} {w0 w : World} {L : List Ent}
/-- append of one square to an owned row of squares -/
theorem appIII (hS : St B w0 w L) (i : Nat) {v : Value} {us : List Value} (hi : L[i]? = some (row 37 v us)) (hN : us.length < 4294967296) (hg : o.guard = none) (s x : Operand)
    (hop : o.op = .call { callee := .builtin .append, args := #[s, x], argTypes := #[50, 50] }) (hs : a.eval s = v) (u : Value) (hu : u.oneCell' = true) (hx : a.eval x = .slice (some ⟨w.heap.size, 0, none⟩) 1 1)
    (hK : ∀ v' w', St B w0 w' (L.set i (row 37 v' (us ++ [u]))) → wpList Try.prog ops Q rest (a.put o.dst v') w') :
    wpList Try.prog ops Q (o :: rest) a (w.alloc (.cells #[u] 37)) :=
  wpList_st_app1 hg s x 50 hop 37 (.slice none 0 0) 24 Try.und_isss Try.info_iss rfl hS i hi hs u hx hu (by omega) hN hK
end
theorem own3_nil (v : Value) : own3 v [] [] [] = [row 37 v []] := rfl
/-- behind the append of a square of its own -/
theorem own3_snoc {B : Nat} {w0 w : World} {v v' u : Value} {vs : List Value} {uss : List (List Value)} {X : List (List (List Int))} {us : List Value} {x : List (List Int)} (h1 : vs.length = X.length) (h2 : uss.length = X.length)
    (h : St B w0 w ((own3 v vs uss X ++ own2 u us x).set 0 (row 37 v' (vs ++ [u])))) : St B w0 w (own3 v' (vs ++ [u]) (uss ++ [us]) (X ++ [x])) := by
  rw [own3, rows3_app _ _ _ h1 h2]
  exact h
theorem Fit3.snoc {vs : List Value} {uss : List (List Value)} {X : List (List (List Int))} (h : Fit3 vs uss X) (v : Value) {us : List Value} {x : List (List Int)} (hx : us.length = x.length) : Fit3 (vs ++ [v]) (uss ++ [us]) (X ++ [x]) :=
  ⟨by simp [h.1], by simp [h.2.1], fun k hk => by
    by_cases e : k < X.length
    · have e1 : vsat (uss ++ [us]) k = vsat uss k := by unfold vsat; rw [List.getD_eq_getElem?_getD, List.getElem?_append_left (by rw [h.2.1]; exact e), ← List.getD_eq_getElem?_getD]
      have e2 : x3at (X ++ [x]) k = x3at X k := by unfold x3at; rw [List.getD_eq_getElem?_getD, List.getElem?_append_left e, ← List.getD_eq_getElem?_getD]
      rw [e1, e2]; exact h.2.2 k e
    · have hk' : k = X.length := by simp at hk; omega
      have e1 : vsat (uss ++ [us]) k = us := by unfold vsat; rw [hk', ← h.2.1]; simp
      have e2 : x3at (X ++ [x]) k = x := by unfold x3at; rw [hk']; simp
      rw [e1, e2]; exact hx⟩

theorem RdI.shq {w : World} {v : Value} {xs : List Int} (h : RdI w v xs) : ∃ a c, v = .slice a xs.length c := by
  obtain ⟨a, c, hv⟩ := h.sl.sh
  rw [iv_len] at hv
  exact ⟨a, c, hv⟩
/-- a square by its entries -/
def sqF (n : Nat) (f : Nat → Nat → Int) : List (List Int) := (List.range n).map fun x => tab n (f x)
theorem sqF_len (n : Nat) (f : Nat → Nat → Int) : (sqF n f).length = n := by simp [sqF]
theorem xat_sqF {n : Nat} {f : Nat → Nat → Int} {x : Nat} (h : x < n) : xat (sqF n f) x = tab n (f x) := by simp [sqF, xat, h]
theorem sqF_take {n : Nat} {f : Nat → Nat → Int} {k : Nat} (h : k < n) : (sqF n f).take (k + 1) = (sqF n f).take k ++ [tab n (f k)] := by
  rw [take_xat (by rw [sqF_len]; exact h), xat_sqF h]
theorem tab_succ (k : Nat) (f : Nat → Int) : tab (k + 1) f = tab k f ++ [f k] := by simp [tab, List.range_succ]
set_option maxHeartbeats 2000000 in
set_option maxRecDepth 100000 in
theorem filledSquare_c (K : FuncId) (caps : Array Value) (f : Nat → Nat → Int) (n : Nat) (w : World) (hn : n ≤ 4096)
    (hcf : ∀ (args : Array Value) (W : World), (callFunc K args).run Try.prog W = .ok (.enter K args) W)
    (hK : ∀ (x y : Nat) (W : World), St w.heap.size w W [] → x < n → y < n → Calls Try.prog K (#[.int .i64 x, .int .i64 y] ++ caps) W (GivesI W (f x y))) :
    Calls Try.prog 110 #[.int .i64 n, .func (.func K) #[] caps] w (MakesII w (sqF n f)) := by
  have HK := Lib.hid hK
  clear hK
  have hS0 := (St.refl w).newnil 24
  go_enter Try.func110, Try.ntmps110
  go_wp2_with fail
  go_loopw [5, 6, 7, 8] (fun o ii _ _ wr => ∃ (k : Nat) (us : List Value), k ≤ n ∧ ii = .int .i64 k ∧ Hid (us.length = k) ∧ St w.heap.size w wr (own2 o us ((sqF n f).take k))) (fun _ ii _ _ _ => n - (intOf ii).toNat)
  case atStart => exact ⟨0, [], by omega, rfl, rfl, hS0⟩
  case round =>
    obtain ⟨k, us, hk, rfl, hl, hS⟩ := hrel
    have Hlu := Lib.hid (show us.length = ((sqF n f).take k).length by rw [List.length_take, sqF_len, hl.out]; omega)
    by_cases hlt : k < n
    · have hS1 := (hS.newnil 2).perm List.perm_append_comm
      simp only [List.cons_append, List.nil_append] at hS1
      have Hst := Lib.hid (sqF_take (f := f) hlt)
      go_wp2_with fail
      go_loopw [7, 8] (fun r jj wx => ∃ j : Nat, j ≤ n ∧ jj = .int .i64 j ∧ St w.heap.size w wx (row 2 r (iv (tab j (f k))) :: own2 u5 us ((sqF n f).take k))) (fun _ jj _ => n - (intOf jj).toNat)
      case atStart => exact ⟨0, by omega, rfl, hS1⟩
      case round =>
        obtain ⟨j, hj, rfl, hS2⟩ := hrel
        by_cases hjn : j < n
        · have Hts := Lib.hid (tab_succ j (f k))
          have Htl := Lib.hid (show (tab j (f k)).length < 4294967296 by rw [tab_len]; omega)
          go_wp2_with fail
          refine (HK.out k j _ hS2.out hlt hjn).mono ?_
          rintro e w3 ⟨rfl, h3⟩
          have hS3 := hS2.call0 h3
          go_wp2_with (at_builtin; refine appI hS3 0 rfl Htl.out rfl _ _ rfl rfl _ rfl ?_; intro v4 w4 hS4)
          go_roundw
          case rel => exact ⟨j + 1, by omega, by go_num, by rw [Hts.out]; exact hS4⟩
          case measure => simp [intOf]; omega
        · have hje : j = n := by omega
          rw [hje] at hS2
          clear hje
          obtain ⟨ar, cr, hre⟩ := (hS2.rdI 0 rfl).shq
          subst hre
          have Htl := Lib.hid (show (tab n (f k)).length = n from tab_len _ _)
          go_wp2_with (at_builtin; refine appII hS2 1 rfl (by rw [hl.out]; omega) rfl _ _ rfl rfl _ rfl rfl ?_; intro v4 w4 hS4)
          go_roundw
          case rel =>
            refine ⟨k + 1, us ++ [.slice ar (tab n (f k)).length cr], by omega, by go_num, by simp [Hid, hl.out], ?_⟩
            rw [Hst.out, own2, rowsI_app Hlu.out]
            simp only [own2, List.set_cons_succ, List.set_cons_zero] at hS4
            exact hS4.perm (by (try simp only [own2, List.cons_append, List.nil_append, List.append_nil]); classical exact List.perm_iff_count.2 (fun a => by simp only [List.cons_append, List.nil_append, List.append_nil, List.count_append, List.count_cons, List.count_nil] <;> omega))
          case measure => simp [intOf]; omega
    · have hke : k = n := by omega
      have HL := Lib.hid (show us.length = (sqF n f).length by rw [hl.out, sqF_len, hke])
      rw [hke, List.take_of_length_le (by rw [sqF_len]; exact Nat.le_refl _)] at hS
      clear hke
      go_wp2_with fail
      go_ret
      exact ⟨_, us, rfl, HL.out, hS⟩
theorem emptySquare1_c (x y : Int) (w : World) : Calls Try.prog 111 #[.int .i64 x, .int .i64 y] w (GivesI w 0) := by
  go_enter Try.func111, Try.ntmps111
  go_wp2_with fail
  go_ret
  exact ⟨rfl, St.refl w⟩
theorem emptySquare_c (n : Nat) (w : World) (hn : n ≤ 4096) : Calls Try.prog 80 #[.int .i64 n] w (MakesII w (sqF n fun _ _ => 0)) := by
  have hcf := callFunc_go Try.func111 (by kernel_rfl) (by kernel_rfl)
  have hcall := Lib.hid (filledSquare_c 111 #[] (fun _ _ => 0) n w hn hcf (fun x y W _ _ _ => emptySquare1_c x y W))
  clear hcf
  go_enter Try.func80, Try.ntmps80
  go_wp2_with fail
  refine hcall.out.mono ?_
  rintro e w1 ⟨v, us, rfl, hl, h1⟩
  have Hl := Lib.hid hl
  clear hl
  go_wp2_with fail
  go_ret
  exact ⟨v, us, rfl, Hl.out, h1⟩
set_option maxHeartbeats 2000000 in
set_option maxRecDepth 100000 in
theorem l06Zero_c (n : Nat) (w : World) (hn : n ≤ 4096) : Calls Try.prog 161 #[.int .i64 n, .int .i64 n] w (MakesII w (sqF n fun _ _ => 0)) := by
  have hS0 := (St.refl w).new 24 #[] (by simp)
  have Hrep := Lib.hid (show List.replicate n (0 : Int) = tab n fun _ => 0 by
    refine cf_ext (by rw [tab_len]; simp) fun j hj => ?_
    have : j < n := by simpa using hj
    rw [cf_tab this]; simp [cf, this])
  go_enter Try.func161, Try.ntmps161
  go_wp2_with fail
  go_loopw [5, 6] (fun o ii wr => ∃ (k : Nat) (us : List Value), k ≤ n ∧ ii = .int .i64 k ∧ Hid (us.length = k) ∧ St w.heap.size w wr (own2 o us ((sqF n fun _ _ => 0).take k))) (fun _ ii _ => n - (intOf ii).toNat)
  case atStart => exact ⟨0, [], by omega, rfl, rfl, hS0⟩
  case round =>
    obtain ⟨k, us, hk, rfl, hl, hS⟩ := hrel
    have Hlu := Lib.hid (show us.length = ((sqF n fun _ _ => 0).take k).length by rw [List.length_take, sqF_len, hl.out]; omega)
    by_cases hlt : k < n
    · have Hst := Lib.hid (sqF_take (f := fun _ _ => 0) hlt)
      have Hul := Lib.hid (show us.length < 4294967296 by rw [hl.out]; omega)
      go_wp2_with (first
        | (at_make
           refine mkI hS rfl _ _ rfl _ _ n rfl rfl (by omega) ?_
           intro v3 w3 hS3
           rw [Hrep.out] at hS3
           obtain ⟨a3, c3, he3⟩ := ((hS3.perm List.perm_append_comm).rdI 0 rfl).shq
           subst he3)
        | (at_builtin
           refine appII hS3 0 rfl Hul.out rfl _ _ rfl rfl _ rfl rfl ?_
           intro v4 w4 hS4))
      go_roundw
      case rel =>
        refine ⟨k + 1, us ++ [.slice a3 (tab n fun _ => 0).length c3], by omega, by go_num, by simp [Hid, hl.out], ?_⟩
        rw [Hst.out]
        exact own2_snoc Hlu.out hS4
      case measure => simp [intOf]; omega
    · have hke : k = n := by omega
      have HL := Lib.hid (show us.length = (sqF n fun _ _ => 0).length by rw [hl.out, sqF_len, hke])
      rw [hke, List.take_of_length_le (by rw [sqF_len]; exact Nat.le_refl _)] at hS
      clear hke
      go_wp2_with fail
      go_ret
      exact ⟨_, us, rfl, HL.out, hS⟩
end Go.Proofs.Ytpfgbbbjldpnnaa
