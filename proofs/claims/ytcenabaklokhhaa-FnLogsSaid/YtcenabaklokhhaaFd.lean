/- Walks: fields and elements that are drawn. -/
import Derived.Test.YtcenabaklokhhaaMf
import Derived.Test.YtcenabaklokhhaaDrw
import Derived.Test.YtcenabaklokhhaaSrc2
namespace Go.Proofs.Ytcenabaklokhhaa
set_option linter.unusedSimpArgs false
set_option linter.unusedVariables false
open Go.RowKit
attribute [local go_sem ↓] Go.wp_at_zero Go.wp_at_succ

theorem FV.repoly {p : Int} {D : Nat} {fs : List Int} (h : FV p D fs) {n : Nat} (hir : irrB p (dgt p D n ++ [1]) = true) : FV p D (dgt p D n ++ [1]) :=
  ⟨h.pr, h.p2, h.p64, h.d1, h.d6, h.q, by simp [dgt_len], by rw [Int.toNat_natCast]; exact cf_appR (by rw [dgt_len]), fun x hx => by
    have hp2 := h.p2
    rcases List.mem_append.1 hx with hx | hx
    · exact dgt_in (by omega) _ _ x hx
    · simp at hx; subst hx; omega, hir⟩
theorem Src.boxFd {w0 w : World} {cv : Value} {g K : Nat} {L : List Ent} (h : Src w0 w cv g K L) (i : Nat) {e : TypeId} {gf : Nat} {p d : Int} {v : Value} (hi : L[i]? = some (Go.Proofs.Ytcenabaklokhhaa.box e gf [.int .i64 p, .int .i64 d, v])) : BoxF w gf p d v :=
  ⟨h.box i hi 0 rfl, h.box i hi 1 rfl, h.box i hi 2 rfl⟩
def qs03 : List Int := [2, 3, 4, 5, 7, 8, 9, 11, 13, 16, 25, 27, 32, 49, 61, 64]
theorem qs03_check : qs03.all (fun q => decide (2 ≤ q) && decide (q ≤ 64) && ((spl q.toNat).1 != 0)) = true := by decide +kernel
theorem qs03_ok {x : Int} (h : x ∈ qs03) : ∃ q : Nat, x = q ∧ 2 ≤ q ∧ q ≤ 64 ∧ MK q := by
  have := List.all_eq_true.1 qs03_check x h
  simp only [Bool.and_eq_true, decide_eq_true_eq, bne_iff_ne, ne_eq] at this
  exact ⟨x.toNat, by omega, by omega, by omega, mk_of (by omega) (by omega) this.2⟩
theorem l03DrawSize_c (w0 w : World) (cv : Value) (bs : List UInt8) (g K : Nat) (L : List Ent) (hb : RdB w0 cv bs) (h : Src w0 w cv g K L) (hK : K < 100000000000) :
    Calls Try.prog 197 #[.pointer (some ⟨g, 0, none⟩)] w (AmongPost qs03 fun w' => Src w0 w' cv g (K + 2) L) := by
  go_enter Try.func197, Try.ntmps197
  go_wp2_with fail
  refine (among_lit qs03 w0 w cv bs g _ L hb h (by decide) (by omega)).mono ?_
  rintro e w2 ⟨y, hy, rfl, h2⟩
  have Hy := Lib.hid hy
  clear hy
  go_wp2_with fail
  go_ret
  exact ⟨y, Hy.out, rfl, h2⟩
/-- a field, and the source goes on -/
def FldD (w0 : World) (cv : Value) (g K : Nat) (L : List Ent) (e : Ending) (w' : World) : Prop :=
  ∃ (p : Int) (D : Nat) (v : Value) (fs : List Int), e = .returned (fv p D v) ∧ FV p D fs ∧ Src w0 w' cv g K (row 2 v (iv fs) :: L)
set_option maxHeartbeats 4000000 in
set_option maxRecDepth 100000 in
theorem l03Draw_c (w0 w : World) (cv : Value) (bs : List UInt8) (g K : Nat) (L : List Ent) (hb : RdB w0 cv bs) (h : Src w0 w cv g K L) (hK : K < 10000000000) :
    Calls Try.prog 111 #[.pointer (some ⟨g, 0, none⟩)] w (FldD w0 cv g (K + 10) L) := by
  have h0 := h.newboxF 25 #[.int .i64 0, .int .i64 0, .slice none 0 0]
  go_enter Try.func111, Try.ntmps111
  go_wp2_with fail
  refine (l03DrawSize_c w0 _ cv bs g _ _ hb h0 (by omega)).mono ?_
  rintro e w1 ⟨y, hy, rfl, h1⟩
  obtain ⟨q, rfl, q2, q64, hmk⟩ := qs03_ok hy
  have HF := Lib.hid (hmk.fv (by omega))
  have HM := Lib.hid (l03Make_c q w1 q2 (by omega) hmk)
  clear hmk hy h h0
  generalize (spl q).1 = P at *
  generalize (spl q).2 = D at *
  generalize mkF q = fs at *
  go_wp2_with fail
  refine HM.out.mono ?_
  rintro e w2 ⟨v, rfl, h2⟩
  obtain ⟨av, cv', rfl⟩ := (h2.rdI 0 rfl).shp'
  unfold fv
  have h3 := ((h1.call h2).perm (L' := row 2 (.slice av fs.length cv') (iv fs) :: box 25 w.heap.size [.int .i64 0, .int .i64 0, .slice none 0 0] :: L) List.perm_append_comm).newboxF 25 #[.int .i64 P, .int .i64 D, .slice av fs.length cv']
  have hg := (h1.st.blt 0 rfl).2
  have hgw := h2.size
  have hne : w.heap.size ≠ w2.heap.size := by omega
  have hne' : w2.heap.size ≠ w.heap.size := by omega
  have p2 := HF.out.p2
  have p64 := HF.out.p64
  have d6 := HF.out.d6
  clear h1 h2 HM
  go_wp2_with fail
  refine (one_c w0 _ cv bs g _ _ 4 hb h3 (by omega)).mono ?_
  rintro e w3 ⟨b, rfl, h4⟩
  clear h3
  have b0 := h4.box 0 rfl 0 rfl
  have b1 := h4.box 0 rfl 1 rfl
  have b2 := h4.box 0 rfl 2 rfl
  have f0 := h4.bfree 0 rfl
  have d0 := h4.box 2 rfl 0 rfl
  have d1 := h4.box 2 rfl 1 rfl
  have d2 := h4.box 2 rfl 2 rfl
  have f2 := h4.bfree 2 rfl
  cases b
  · go_wp2_with fail
    refine bodyPost_ret (v := .agg #[.int .i64 P, .int .i64 D, .slice av fs.length cv']) (by simp [results, Try.results111, go_sem, d0, d1, d2]) rfl ⟨_, _, _, fs, rfl, HF.out, ?_⟩
    have h5 := (((h4.perm (L' := box 25 w.heap.size [.int .i64 0, .int .i64 0, .slice none 0 0] :: row 2 (.slice av fs.length cv') (iv fs) :: box 25 w2.heap.size [.int .i64 P, .int .i64 D, .slice av fs.length cv'] :: L) (by (try simp only [own2, List.cons_append, List.nil_append, List.append_nil]); classical exact List.perm_iff_count.2 (fun a => by simp only [List.cons_append, List.nil_append, List.append_nil, List.count_append, List.count_cons, List.count_nil] <;> omega))).bstore 0 rfl 0 (.int .i64 P)).bstore 0 rfl 1 (.int .i64 D)).bstore 0 rfl 2 (.slice av fs.length cv')
    exact (h5.sub (((List.Sublist.refl _).cons _).cons_cons _ |>.cons _)).mono (by omega)
  · have HZ := Lib.hid (l03Size_c P D w2.heap.size _ fs w3 ⟨b0, b1, b2⟩ HF.out)
    rw [Int.toNat_natCast] at HZ
    have hq64 := HF.out.q64
    have hqp : 0 < (P : Int) ^ D := Int.pow_pos HF.out.fa.pos
    have HqD := Lib.hid HF.out.q64
    generalize (P : Int) ^ D = qq at HZ hq64 hqp
    go_wp2_with fail
    refine HZ.out.mono ?_
    rintro e w4 ⟨rfl, h5⟩
    have h6 := h4.call0 h5
    clear h4 h5 b0 b1 b2 f0 d0 d1 d2 f2
    go_wp2_with fail
    refine (pick_c w0 w4 cv bs g _ _ qq hb h6 (by omega)).mono ?_
    rintro e w5 ⟨x, x0, x1, rfl, h7⟩
    obtain ⟨n, rfl⟩ := Int.eq_ofNat_of_zero_le x0
    have hn : n ≤ 64 := by omega
    have HD := fun W => Lib.hid (l03Digits_c (n : Int) P D W (by omega) (by omega) (by omega) (by omega) (by omega))
    rw [lows_dgt] at HD
    have HI := fun W v (hv : RdI W v (dgt P D n ++ [1])) => Lib.hid (l03Irreducible_c v (dgt P D n ++ [1]) P W hv p2 p64 (fun x hx => by
      rcases List.mem_append.1 hx with hx | hx
      · exact dgt_in (by omega) _ _ x hx
      · simp at hx; subst hx; omega) (by simp) (by simpa [dgt_len] using HqD.out))
    have Hdl := Lib.hid (show (dgt (P : Int) D n).length < 4294967296 by rw [dgt_len]; omega)
    have Hre := Lib.hid (fun h => HF.out.repoly (n := n) h)
    have b0 := h7.box 0 rfl 0 rfl
    have b1 := h7.box 0 rfl 1 rfl
    clear h6
    go_wp2_with fail
    refine (HD _).out.mono ?_
    rintro e w6 ⟨u, rfl, h8⟩
    have h9 := (h7.call h8).perm List.perm_append_comm
    obtain ⟨pp, ss, s0, s1, hS⟩ := h9
    clear h7 h8 b0 b1
    go_wp2_with (at_builtin; refine appI hS 1 rfl Hdl.out rfl _ _ rfl rfl _ rfl ?_; intro v7 w7 hS7; have b0 := hS7.bcell 2 rfl 0 rfl; have b1 := hS7.bcell 2 rfl 1 rfl)
    have hr7 := hS7.rdI 1 rfl
    have HI7 := HI w7 v7 hr7
    clear HI
    cases hir : irrB P (dgt P D n ++ [1])
    · rw [hir] at HI7
      clear hir
      refine HI7.out.mono ?_
      rintro e w8 ⟨rfl, h10⟩
      have hS8 := hS7.call0 h10
      clear hS7 h10 hr7 b0 b1
      have b0 := hS8.bcell 2 rfl 0 rfl
      have b1 := hS8.bcell 2 rfl 1 rfl
      have b2 := hS8.bcell 2 rfl 2 rfl
      have d0 := hS8.bcell 4 rfl 0 rfl
      have d1 := hS8.bcell 4 rfl 1 rfl
      have d2 := hS8.bcell 4 rfl 2 rfl
      have f2 := hS8.bfree 4 rfl
      go_wp2_with fail
      refine bodyPost_ret (v := .agg #[.int .i64 P, .int .i64 D, .slice av fs.length cv']) (by simp [results, Try.results111, go_sem, d0, d1, d2]) rfl ⟨_, _, _, fs, rfl, HF.out, ?_⟩
      have h11 := (((hS8.bstore 4 rfl 0 (.int .i64 P)).bstore 4 rfl 1 (.int .i64 D)).bstore 4 rfl 2 (.slice av fs.length cv'))
      refine ⟨pp, ss, s0, by omega, h11.sub ?_⟩
      exact (((((List.Sublist.refl _).cons _).cons_cons _).cons _).cons _).cons_cons _
    · rw [hir] at HI7
      have Hf2 := Lib.hid (Hre.out hir)
      clear hir
      refine HI7.out.mono ?_
      rintro e w8 ⟨rfl, h10⟩
      have hS8 := hS7.call0 h10
      generalize hLk : dgt (P : Int) D n ++ [1] = Lk at *
      have HLk := Lib.hid hLk
      clear hLk hr7
      obtain ⟨a6, c6, he6⟩ := (hS8.rdI 1 rfl).shp'
      subst he6
      clear hS7 h10 b0 b1
      have b0 := hS8.bcell 2 rfl 0 rfl
      have b1 := hS8.bcell 2 rfl 1 rfl
      have b2 := hS8.bcell 2 rfl 2 rfl
      have f0 := hS8.bfree 2 rfl
      have d0 := hS8.bcell 4 rfl 0 rfl
      have d1 := hS8.bcell 4 rfl 1 rfl
      have d2 := hS8.bcell 4 rfl 2 rfl
      have f2 := hS8.bfree 4 rfl
      go_wp2_with fail
      refine bodyPost_ret (v := .agg #[.int .i64 P, .int .i64 D, .slice a6 Lk.length c6]) (by simp [results, Try.results111, go_sem, d0, d1, d2]) rfl ⟨_, _, _, Lk, rfl, Hf2.out, ?_⟩
      have h11 := ((((hS8.bstore 2 rfl 2 (.slice a6 Lk.length c6)).bstore 4 rfl 0 (.int .i64 P)).bstore 4 rfl 1 (.int .i64 D)).bstore 4 rfl 2 (.slice a6 Lk.length c6))
      refine ⟨pp, ss, s0, by omega, h11.sub ?_⟩
      exact (((((List.Sublist.refl _).cons _).cons _).cons _).cons_cons _).cons_cons _
/-- a field and three of its elements -/
def FieldE (w : World) (e : Ending) (w' : World) : Prop :=
  ∃ (p : Int) (D : Nat) (v : Value) (fs : List Int) (a b c : Int), e = .returned (.tuple #[fv p D v, .int .i64 a, .int .i64 b, .int .i64 c]) ∧ FV p D fs ∧ El p D a ∧ El p D b ∧ El p D c ∧ St w.heap.size w w' [row 2 v (iv fs)]
set_option maxHeartbeats 4000000 in
set_option maxRecDepth 100000 in
theorem V8Field_c (w : World) (cv : Value) (bs : List UInt8) (hb : RdB w cv bs) : Calls Try.prog 22 #[cv] w (FieldE w) := by
  have hS0 := (St.refl w).newboxF 25 #[.int .i64 0, .int .i64 0, .slice none 0 0]
  go_enter Try.func22, Try.ntmps22
  go_wp2_with fail
  refine (l00FromS w _ cv bs _ hb hS0).mono ?_
  rintro e w1 ⟨g, rfl, h1⟩
  go_wp2_with fail
  refine (l03Draw_c w w1 cv bs g _ _ hb h1 (by omega)).mono ?_
  rintro e w2 ⟨p, D, vf, fs, rfl, hf, h2⟩
  obtain ⟨af, cf', rfl⟩ := (h2.rdI 0 rfl).shp'
  unfold fv
  have HF := Lib.hid hf
  have h3 := h2.newboxF 25 #[.int .i64 p, .int .i64 D, .slice af fs.length cf']
  have hlt2 := (h2.boxlt 1 rfl)
  have hq64 := hf.q64
  have hqp : 0 < p ^ D := Int.pow_pos hf.fa.pos
  have Hel := fun x (h : 0 ≤ x ∧ x < p ^ D) => Lib.hid (show El p D x from h)
  have HZ := fun W (hb : BoxF W w2.heap.size p D (.slice af fs.length cf')) => Lib.hid (l03Size_c p D w2.heap.size _ fs W hb hf)
  rw [Int.toNat_natCast] at HZ
  clear hf h1
  generalize p ^ D = q at *
  go_wp2_with fail
  refine (HZ _ (h3.boxFd 0 rfl)).out.mono ?_
  rintro e w3 ⟨rfl, h4'⟩
  have h4 := h3.call0 h4'
  clear h3 h4' HZ h2
  go_wp2_with fail
  refine (pick_c w _ cv bs g _ _ q hb h4 (by omega)).mono ?_
  rintro e w4 ⟨a, a0, a1, rfl, h5⟩
  go_wp2_with fail
  refine (pick_c w _ cv bs g _ _ q hb h5 (by omega)).mono ?_
  rintro e w5 ⟨b, b0', b1', rfl, h6⟩
  have Ha := Hel a (by omega)
  have Hb := Hel b (by omega)
  clear h4 h5
  go_wp2_with fail
  have b0 := h6.box 0 rfl 0 rfl
  have b1 := h6.box 0 rfl 1 rfl
  have b2 := h6.box 0 rfl 2 rfl
  have hne : w.heap.size ≠ w2.heap.size := by omega
  have hne' : w2.heap.size ≠ w.heap.size := by omega
  refine regionG (fun w' => w'.cell? ⟨w2.heap.size, 0, none⟩ = some (.int .i64 p) ∧ w'.cell? ⟨w2.heap.size, 1, none⟩ = some (.int .i64 D) ∧ w'.cell? ⟨w2.heap.size, 2, none⟩ = some (.slice af fs.length cf')) 6 (by kernel_rfl) ⟨cell_dr b0, cell_dr b1, cell_dr b2⟩ (fun hHeld => ?_)
  refine takeH (i := 0) [] (v := ?_) rfl (by kernel_rfl) (fun _ _ _ h => h) (by rfl) ?_ (by assumption) ?_
  case refine_2 => (intro w' hSw; (try dsimp only at hSw); go_simp; first | done | with_reducible rfl)
  try simp only [Act.put, List.setIfInBounds_toArray, List.set_cons_zero, List.set_cons_succ]
  refine takeP (i := 1) (v := ?_) rfl (by kernel_rfl) (fun _ _ _ h => h) (by rfl) ?_ (by assumption) ?_
  case refine_2 => (intro w'; go_simp; first | done | with_reducible rfl)
  try simp only [Act.put, List.setIfInBounds_toArray, List.set_cons_zero, List.set_cons_succ]
  refine takeP (i := 2) (v := ?_) rfl (by kernel_rfl) (fun _ _ _ h => h) (by rfl) ?_ (by assumption) ?_
  case refine_2 => (intro w'; go_simp; first | done | with_reducible rfl)
  try simp only [Act.put, List.setIfInBounds_toArray, List.set_cons_zero, List.set_cons_succ]
  refine takeP (i := 3) (v := ?_) rfl (by kernel_rfl) (fun _ _ _ h => h) (by rfl) ?_ (by assumption) ?_
  case refine_2 => (intro w'; go_simp; first | done | with_reducible rfl)
  try simp only [Act.put, List.setIfInBounds_toArray, List.set_cons_zero, List.set_cons_succ]
  refine takeP (i := 4) (v := ?_) rfl (by kernel_rfl) (fun _ _ _ h => h) (by rfl) ?_ (by assumption) ?_
  case refine_2 => (intro w'; go_simp; first | done | with_reducible rfl)
  try simp only [Act.put, List.setIfInBounds_toArray, List.set_cons_zero, List.set_cons_succ]
  refine readyG (rs := [5]) (by kernel_rfl) (by simp) ?_
  refine AllG.cons rfl (fun K hK => ?_) AllG.nil
  go_simp
  go_at_call 99
  refine (pick_c w _ cv bs g _ _ q hb h6.drew (by omega)).mono ?_
  rintro e w6 ⟨c, c0, c1, rfl, h7⟩
  have Hc := Hel c (by omega)
  clear b0 b1 b2
  have b0 := h7.box 0 rfl 0 rfl
  have b1 := h7.box 0 rfl 1 rfl
  have b2 := h7.box 0 rfl 2 rfl
  have d0 := h7.box 2 rfl 0 rfl
  have d1 := h7.box 2 rfl 1 rfl
  have d2 := h7.box 2 rfl 2 rfl
  have f2 := h7.bfree 2 rfl
  refine hK.out _ _ ⟨b0, b1, b2⟩ (fun hHeld => ?_)
  clear hK K
  try simp only [Act.put, List.setIfInBounds_toArray, List.set_cons_zero, List.set_cons_succ]
  refine readyG (rs := [6]) (by kernel_rfl) (by simp) ?_
  refine AllG.last rfl (by kernel_rfl) (fun K hK => ?_) AllG.nil
  go_simp
  refine hK.out _ _ ?_
  clear hK K
  try simp only [Act.put, List.setIfInBounds_toArray, List.set_cons_zero, List.set_cons_succ]
  refine readyG (rs := [7]) (by kernel_rfl) (by simp) ?_
  refine AllG.last rfl (by kernel_rfl) (fun K hK => ?_) AllG.nil
  go_simp
  refine hK.out _ _ ?_
  clear hK K
  try simp only [Act.put, List.setIfInBounds_toArray, List.set_cons_zero, List.set_cons_succ]
  refine readyG (rs := [8]) (by kernel_rfl) (by simp) ?_
  refine AllG.last rfl (by kernel_rfl) (fun K hK => ?_) AllG.nil
  go_simp
  refine hK.out _ _ ?_
  clear hK K
  try simp only [Act.put, List.setIfInBounds_toArray, List.set_cons_zero, List.set_cons_succ]
  refine readyG (rs := [9]) (by kernel_rfl) (by simp) ?_
  refine AllG.last rfl (by kernel_rfl) (fun K hK => ?_) AllG.nil
  go_simp
  refine hK.out _ _ ?_
  clear hK K
  try simp only [Act.put, List.setIfInBounds_toArray, List.set_cons_zero, List.set_cons_succ]
  refine doneG (by kernel_rfl) ?_ _
  refine NoPanic.normal ?_
  go_wp2_with fail
  refine bodyPost_ret (v := .tuple #[.agg #[.int .i64 p, .int .i64 D, .slice af fs.length cf'], .int .i64 a, .int .i64 b, .int .i64 c]) (by simp [results, Try.results22, go_sem, d0, d1, d2]) rfl ⟨p, D, _, fs, a, b, c, rfl, HF.out, Ha.out, Hb.out, Hc.out, ?_⟩
  have h8 := (((h7.bstore 2 rfl 0 (.int .i64 p)).bstore 2 rfl 1 (.int .i64 D)).bstore 2 rfl 2 (.slice af fs.length cf')).st
  exact h8.sub (((List.nil_sublist _).cons_cons _).cons _)
end Go.Proofs.Ytcenabaklokhhaa
