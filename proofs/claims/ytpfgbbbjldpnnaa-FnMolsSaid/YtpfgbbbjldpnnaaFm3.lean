/- Walks: the squares of a field. Walks: all squares of a field; products of squares. Walks: products of lists of orthogonal squares; orders that are drawn. -/
import Derived.Test.YtpfgbbbjldpnnaaPFm
import Derived.Test.YtpfgbbbjldpnnaaMl1
import Derived.Test.YtpfgbbbjldpnnaaMf
import Derived.Test.YtpfgbbbjldpnnaaDrw
namespace Go.Proofs.Ytpfgbbbjldpnnaa
set_option linter.unusedSimpArgs false
set_option linter.unusedVariables false
open Go.RowKit
attribute [local go_sem ↓] Go.wp_at_zero Go.wp_at_succ


set_option maxHeartbeats 4000000 in
set_option maxRecDepth 100000 in
theorem fsq1_c (x y : Nat) (gf gm : Nat) (p : Int) (D : Nat) (vf : Value) (fs : List Int) (m : Int) (w : World) (c0 : w.cell? ⟨gf, 0, none⟩ = some (.int .i64 p)) (c1 : w.cell? ⟨gf, 1, none⟩ = some (.int .i64 D)) (c2 : w.cell? ⟨gf, 2, none⟩ = some vf) (cm : w.cell? ⟨gm, 0, none⟩ = some (.int .i64 m))
    (hr : RdI w vf fs) (hf : FV p D fs) (m0 : 0 ≤ m) (m1 : m ≤ 1000000) (hx : x ≤ 1000000) (hy : y ≤ 1000000) :
    Calls Try.prog 113 #[.int .i64 x, .int .i64 y, .pointer (some ⟨gf, 0, none⟩), .pointer (some ⟨gm, 0, none⟩)] w (GivesI w (fsum p D (fmul p D fs m x) y 1)) := by
  have q0 : ∀ s : SS w.heap.size w [], s.w.cell? ⟨gf, 0, none⟩ = some (.int .i64 p) := fun s => by rw [s.st.below.cell (World.block_lt_of_cell? _ _ c0)]; exact c0
  have q1 : ∀ s : SS w.heap.size w [], s.w.cell? ⟨gf, 1, none⟩ = some (.int .i64 D) := fun s => by rw [s.st.below.cell (World.block_lt_of_cell? _ _ c1)]; exact c1
  have q2 : ∀ s : SS w.heap.size w [], s.w.cell? ⟨gf, 2, none⟩ = some vf := fun s => by rw [s.st.below.cell (World.block_lt_of_cell? _ _ c2)]; exact c2
  have q3 : ∀ s : SS w.heap.size w [], s.w.cell? ⟨gm, 0, none⟩ = some (.int .i64 m) := fun s => by rw [s.st.below.cell (World.block_lt_of_cell? _ _ cm)]; exact cm
  have he := (fmul_el hf.fa m x).lim hf
  have KP := fun s : SS w.heap.size w [] => Lib.hid (product_c p D vf fs m x s.w (s.st.oldI hr) hf m0 m1 (by omega) (by omega))
  have KC := fun s : SS w.heap.size w [] => Lib.hid (combine_c p D vf fs (fmul p D fs m x) y 1 s.w (s.st.oldI hr) hf he.1 he.2 (by omega) (by omega) (.inl rfl))
  unfold fv at KP KC
  have hS := St.refl w
  clear he hf
  generalize fsum p D (fmul p D fs m x) y 1 = R at *
  generalize fmul p D fs m x = M at *
  clear c0 c1 c2 cm
  go_enter Try.func113, Try.ntmps113
  go_wp2_with fail
  have hne : Nonempty (SS _ _ _) := ⟨⟨_, hS⟩⟩
  refine wp_region_st (by kernel_rfl) (by kernel_rfl) hS ?_
  repeat (go_big_quiet_step ((first | (go_at_call 115; exact st_quiet (KP _).out) | (go_at_call 114; exact st_quiet (KC _).out))))
  refine wpQuiet_nil ?_
  rintro _ ⟨s2, rfl⟩
  have hS2 := s2.st
  generalize s2.w = w2 at hS2 ⊢
  go_wp2_with fail
  go_ret
  exact ⟨rfl, hS2⟩
/-- what the field of n elements is -/
structure FQ (n : Nat) (p : Int) (D : Nat) (fs : List Int) : Prop where
  fv : FV p D fs
  pow : p ^ D = (n : Int)
  n2 : 2 ≤ n
  n10 : n ≤ 10
theorem mk_fq {q : Int} (h : mkOk q = true) (h10 : q ≤ 10) : ∃ (n : Nat) (p : Int) (D : Nat) (fs : List Int), q = n ∧ FQ n p D fs ∧ mkfP q = p ∧ mkfD q = D ∧ mkfL q = fs ∧ mkfC q = 0 := by
  obtain ⟨n, rfl, h2, h64, hm⟩ := mkOk_t h
  refine ⟨n, ((spl n).1 : Nat), (spl n).2, mkF n, rfl, ⟨hm.fv h64, ?_, h2, by omega⟩, ?_⟩
  · rw [← Int.natCast_pow, hm.pw]
  · simp [mkfP, mkfD, mkfL, mkfC, h]
set_option maxHeartbeats 4000000 in
set_option maxRecDepth 100000 in
theorem FieldSquare_no (q : Int) (w : World) (hb : 10 < q ∨ mkOk q = false) : Calls Try.prog 82 #[.int .i64 q, .int .i64 1] w (IIK w [] 2) := by
  have hS0 := (St.refl w).newboxF 2 #[.int .i64 1]
  have HM := fun W => Lib.hid (MakeField_c q W)
  by_cases h10 : 10 < q
  · clear hb
    generalize mkfP q = a1 at *
    generalize mkfD q = a2 at *
    generalize mkfL q = a3 at *
    generalize mkfC q = a4 at *
    go_enter Try.func82, Try.ntmps82
    go_wp2_with fail
    refine (HM _).out.mono ?_
    rintro e w1 ⟨v, rfl, h1⟩
    obtain ⟨va, vc, rfl⟩ := (h1.rdI 0 rfl).shq
    have hS1 := hS0.call0 h1.out
    unfold fv
    clear hS0 h1
    go_wp2_with fail
    go_ret2
    exact IIK.no (hS1.out.newboxF 109 #[.int .i64 a1, .int .i64 a2, .slice va a3.length vc])
  · have hm : mkOk q = false := hb.resolve_left h10
    have hc : mkfC q = 2 := by rw [mkfC, if_neg (by rw [hm]; simp)]
    rw [hc] at HM
    clear hb hm hc
    generalize mkfP q = a1 at *
    generalize mkfD q = a2 at *
    generalize mkfL q = a3 at *
    go_enter Try.func82, Try.ntmps82
    go_wp2_with fail
    refine (HM _).out.mono ?_
    rintro e w1 ⟨v, rfl, h1⟩
    obtain ⟨va, vc, rfl⟩ := (h1.rdI 0 rfl).shq
    have hS1 := hS0.call0 h1.out
    unfold fv
    clear hS0 h1
    go_wp2_with fail
    go_ret2
    exact IIK.no (hS1.out.newboxF 109 #[.int .i64 a1, .int .i64 a2, .slice va a3.length vc])
set_option maxHeartbeats 4000000 in
set_option maxRecDepth 100000 in
theorem FieldSquare_c (n : Nat) (m : Int) (p : Int) (D : Nat) (fs : List Int) (w : World) (hq : FQ n p D fs) (hP : mkfP n = p) (hD : mkfD n = D) (hL : mkfL n = fs) (hC : mkfC n = 0) (m1 : 1 ≤ m) (m2 : m ≤ (n : Int) - 1) :
    Calls Try.prog 82 #[.int .i64 n, .int .i64 m] w (IIK w (fsq p D fs n m) 0) := by
  have hS0 := (St.refl w).newboxF 2 #[.int .i64 m]
  have HM := fun W => Lib.hid (MakeField_c n W)
  rw [hP, hD, hL, hC] at HM
  have n10 := hq.n10
  have n2 := hq.n2
  have i1 := inB_true (n := m) (a := 1) (b := (n : Int) - 1) ⟨m1, m2⟩
  have hcf := callFunc_go Try.func113 (by kernel_rfl) (by kernel_rfl)
  have hmf : ∀ (fn : Fn) (first cap : Array Value) (w : World), (Instr.makeFunc fn first cap).run Try.prog w = .ok (.func fn first cap) w := fun _ _ _ _ => rfl
  have Hcf := Lib.hid hcf
  have HF := Lib.hid (show fsq p D fs n m = sqF n fun x y => fsum p D (fmul p D fs m x) y 1 from rfl)
  have Hq := Lib.hid hq
  clear hcf hP hD hL hC hq
  go_enter Try.func82, Try.ntmps82
  go_wp2_with fail
  refine (HM _).out.mono ?_
  rintro e w1 ⟨v, rfl, h1⟩
  obtain ⟨va, vc, rfl⟩ := (h1.rdI 0 rfl).shq
  have hS1 := hS0.call h1
  have hS2 := hS1.newboxF 109 #[.int .i64 p, .int .i64 D, .slice va fs.length vc]
  have b0 := hS2.bcell 0 rfl 0 rfl
  have b1 := hS2.bcell 0 rfl 1 rfl
  have b2 := hS2.bcell 0 rfl 2 rfl
  have bm := hS2.bcell 1 rfl 0 rfl
  have rf := hS2.rdI 2 rfl
  have hcall := Lib.hid (filledSquare_c 113 #[.pointer (some ⟨w1.heap.size, 0, none⟩), .pointer (some ⟨w.heap.size, 0, none⟩)] (fun x y => fsum p D (fmul p D fs m x) y 1) n _ (by omega) Hcf.out (fun x y W hW hx hy =>
    fsq1_c x y w1.heap.size w.heap.size p D (.slice va fs.length vc) fs m W
      (by rw [hW.below.cell (World.block_lt_of_cell? _ _ b0)]; exact b0) (by rw [hW.below.cell (World.block_lt_of_cell? _ _ b1)]; exact b1) (by rw [hW.below.cell (World.block_lt_of_cell? _ _ b2)]; exact b2) (by rw [hW.below.cell (World.block_lt_of_cell? _ _ bm)]; exact bm)
      (rf.keep hW.below) Hq.out.fv (by omega) (by omega) (by omega) (by omega)))
  unfold fv
  clear hS0 h1 hS1 b0 b1 b2 rf
  go_wp2_with (first
    | (go_at_call 110; refine hcall.out.mono ?_; rintro e w3 ⟨o, uo, rfl, hl, h3⟩; have Hl := Lib.hid hl; have hS3 := hS2.call h3; clear hl h3)
    | (go_at_call 67; refine (within_c _ _ _ _).mono ?_; rw [i1]; rintro e w2 ⟨rfl, rfl⟩))
  go_ret2
  rw [HF.out]
  exact ⟨o, uo, rfl, Hl.out, hS3.sub (List.sublist_append_right _ _)⟩


/-- squares and a code -/
def IIIK (w : World) (X : List (List (List Int))) (c : Int) (e : Ending) (w' : World) : Prop := ∃ v vs uss, e = .returned (.tuple #[v, .int .i64 c]) ∧ Fit3 vs uss X ∧ St w.heap.size w w' (own3 v vs uss X)
theorem fitE : Fit3 [] [] [] := ⟨rfl, rfl, fun k h => by simp at h⟩
theorem IIIK.no {w w' : World} {L : List Ent} {c : Int} (h : St w.heap.size w w' L) : IIIK w [] c (.returned (.tuple #[.slice none 0 0, .int .i64 c])) w' := ⟨_, [], [], rfl, fitE, h.out.newnil _⟩
theorem IIIK.riii {w w' : World} {v : Value} {vs : List Value} {uss : List (List Value)} {X : List (List (List Int))} (hf : Fit3 vs uss X) (h : St w.heap.size w w' (own3 v vs uss X)) : RIII w' v vs uss X := St.riii (L2 := []) (by rw [List.append_nil]; exact h) hf
theorem FieldMols_no (q : Int) (w : World) (hb : 10 < q ∨ mkOk q = false) : Calls Try.prog 30 #[.int .i64 q] w (IIIK w [] 2) := by
  have HF := fun W => Lib.hid (FieldSquare_no q W hb)
  clear hb
  go_enter Try.func30, Try.ntmps30
  go_wp2_with fail
  refine (HF _).out.mono ?_
  rintro e w1 ⟨v, us, rfl, _, h1⟩
  go_wp2_with fail
  go_ret2
  exact IIIK.no h1
set_option maxHeartbeats 4000000 in
set_option maxRecDepth 100000 in
theorem FieldMols_c (n : Nat) (p : Int) (D : Nat) (fs : List Int) (w : World) (hq : FQ n p D fs) (hP : mkfP n = p) (hD : mkfD n = D) (hL : mkfL n = fs) (hC : mkfC n = 0) :
    Calls Try.prog 30 #[.int .i64 n] w (IIIK w (fmL p D fs n (n - 1)) 0) := by
  have HF := fun W m (h1 : 1 ≤ m) h2 => Lib.hid (FieldSquare_c n m p D fs W hq hP hD hL hC h1 h2)
  have n10 := hq.n10
  have n2 := hq.n2
  have HL := fun k => Lib.hid (fmL_len p D fs n k)
  have HS := fun k => Lib.hid (fmL_succ p D fs n k)
  have HQ := fun m => Lib.hid (fsq_sq0 hq.fv hq.pow m).len
  clear hq hP hD hL hC
  have H1 := HF w 1 (by omega) (by omega)
  go_enter Try.func30, Try.ntmps30
  go_wp2_with fail
  refine H1.out.mono ?_
  rintro e w1 ⟨v, us, rfl, _, h1⟩
  have hS1 := h1.out.newnil 37
  simp only [List.nil_append] at hS1
  clear h1 H1
  go_wp2_with fail
  go_loopw [6, 7, 8, 9] (fun o m _ _ wr => ∃ (k : Nat) (vs : List Value) (uss : List (List Value)), k ≤ n - 1 ∧ m = .int .i64 ((k : Int) + 1) ∧ Hid (Fit3 vs uss (fmL p D fs n k)) ∧ St w.heap.size w wr (own3 o vs uss (fmL p D fs n k))) (fun _ m _ _ _ => n - (intOf m).toNat)
  case atStart => exact ⟨0, [], [], by omega, rfl, fitE, hS1⟩
  case round =>
    clear hS1
    obtain ⟨k, vs, uss, hk, rfl, hf, hS⟩ := hrel
    by_cases hlt : (k : Int) + 1 < n
    · have hkn : k < n - 1 := by omega
      have Hvl := Lib.hid (show vs.length < 4294967296 by rw [hf.out.1, (HL k).out]; omega)
      have Hs := HS k
      go_wp2_with fail
      refine (HF _ ((k : Int) + 1) (by omega) (by omega)).out.mono ?_
      rintro e w2 ⟨u, us2, rfl, hl2, h2⟩
      obtain ⟨ua, uc, rfl⟩ := (h2.rd 0 rfl).sl.sh
      have hS2 := hS.call h2
      have Hl2 := Lib.hid hl2
      clear hS h2 hl2
      go_wp2_with (at_builtin; refine appIII hS2 0 rfl Hvl.out rfl _ _ rfl rfl _ rfl rfl ?_; intro v5 w5 hS5)
      have hf5 := Lib.hid (hf.out.snoc (.slice ua us2.length uc) Hl2.out)
      have hS6 := own3_snoc hf.out.1 hf.out.2.1 hS5
      rw [← Hs.out] at hf5 hS6
      go_roundw
      case rel => exact ⟨k + 1, _, _, by omega, by go_num, hf5.out, hS6⟩
      case measure => simp [intOf]; omega
    · obtain rfl : k = n - 1 := by omega
      go_wp2_with fail
      go_ret2
      exact ⟨_, vs, uss, rfl, hf.out, hS⟩
set_option maxHeartbeats 4000000 in
set_option maxRecDepth 100000 in
theorem prod1_c (x y : Nat) (gm ga gb : Nat) (v v' : Value) (us us' : List Value) (n m : Nat) (A B : List (List Int)) (w : World) (hm : w.cell? ⟨gm, 0, none⟩ = some (.int .i64 m)) (ha : w.cell? ⟨ga, 0, none⟩ = some v) (hb : w.cell? ⟨gb, 0, none⟩ = some v')
    (hv : RII w v us A) (hv' : RII w v' us' B) (hA : Sq0 n A) (hB : Sq0 m B) (hx : x < n * m) (hy : y < n * m) (hn2 : n ≤ 100) (hm2 : m ≤ 100) :
    Calls Try.prog 117 #[.int .i64 x, .int .i64 y, .pointer (some ⟨gm, 0, none⟩), .pointer (some ⟨ga, 0, none⟩), .pointer (some ⟨gb, 0, none⟩)] w (GivesI w ((pdF m A B x y : Nat) : Int)) := by
  have dx := dm_lt hx
  have dy := dm_lt hy
  have m0 : 0 < m := by omega
  have hNle : n * m ≤ 10000 := Nat.mul_le_mul hn2 hm2
  have hPl := pdF_lt hA hB hx hy
  have hPd : pdF m A B x y = m * af A (x / m) (y / m) + af B (x % m) (y % m) := rfl
  have f0 : ((m : Int) == 0) = false := eq_f (by omega)
  have f1 : ¬ (m : Int) = 0 := by omega
  have f2 : ¬ m = 0 := by omega
  have q1 : (x : Int).tdiv m = ((x / m : Nat) : Int) := by rw [Int.tdiv_eq_ediv_of_nonneg (by omega)]; rfl
  have q2 : (y : Int).tdiv m = ((y / m : Nat) : Int) := by rw [Int.tdiv_eq_ediv_of_nonneg (by omega)]; rfl
  have q3 : (x : Int).tmod m = ((x % m : Nat) : Int) := by rw [Int.tmod_eq_emod_of_nonneg (by omega)]; rfl
  have q4 : (y : Int).tmod m = ((y % m : Nat) : Int) := by rw [Int.tmod_eq_emod_of_nonneg (by omega)]; rfl
  generalize pdF m A B x y = R at *
  generalize x / m = k1 at *
  generalize y / m = y1 at *
  generalize x % m = k2 at *
  generalize y % m = y2 at *
  have q5 : IntKind.i64.wrap (k1 : Int) = (k1 : Int) := IntWalk.i64_in _ (by omega)
  have q6 : IntKind.i64.wrap (y1 : Int) = (y1 : Int) := IntWalk.i64_in _ (by omega)
  have lA : k1 < A.length := by rw [hA.len]; exact dx.1
  have lB : k2 < B.length := by rw [hB.len]; exact dx.2
  have i1 := hv.ixe (k1 : Int) k1 rfl lA
  have i2 := hv'.ixe (k2 : Int) k2 rfl lB
  have i3 := (hv.row k1 lA).ixe (y1 : Int) y1 rfl (by rw [hA.row k1 dx.1]; exact dy.1)
  have i4 := (hv'.row k2 lB).ixe (y2 : Int) y2 rfl (by rw [hB.row k2 dx.2]; exact dy.2)
  have c1 := hv.cell k1 lA
  have c2 := hv'.cell k2 lB
  have eA := af_eq hA dx.1 dy.1
  have eB := af_eq hB dx.2 dy.2
  have c3 : w.cell? (el (vat us k1) y1) = some (.int .i64 (af A k1 y1 : Nat)) := by rw [← eA.1]; exact (hv.row k1 lA).cell y1 (by rw [hA.row k1 dx.1]; exact dy.1)
  have c4 : w.cell? (el (vat us' k2) y2) = some (.int .i64 (af B k2 y2 : Nat)) := by rw [← eB.1]; exact (hv'.row k2 lB).cell y2 (by rw [hB.row k2 dx.2]; exact dy.2)
  generalize af A k1 y1 = a at *
  generalize af B k2 y2 = b at *
  obtain ⟨P, hP⟩ : ∃ P, P = m * a := ⟨_, rfl⟩
  rw [← hP] at hPd
  have q7 : (m : Int) * (a : Int) = (P : Int) := by rw [hP]; rfl
  have q8 : IntKind.i64.wrap (P : Int) = (P : Int) := IntWalk.i64_in _ (by omega)
  have q9 : (P : Int) + (b : Int) = (R : Int) := by omega
  have q10 : IntKind.i64.wrap (R : Int) = (R : Int) := IntWalk.i64_in _ (by omega)
  clear hA hB eA eB hPd hP hv hv' dx dy lA lB hPl hx hy
  go_enter Try.func117, Try.ntmps117
  go_wp2_with fail
  go_region_held3 (fun w' => w'.cell? ⟨gm, 0, none⟩ = some (.int .i64 m) ∧ w'.cell? ⟨ga, 0, none⟩ = some v ∧ w'.cell? ⟨gb, 0, none⟩ = some v' ∧ w'.cell? (el v k1) = some (vat us k1) ∧ w'.cell? (el v' k2) = some (vat us' k2) ∧ w'.cell? (el (vat us k1) y1) = some (.int .i64 (a : Int)) ∧ w'.cell? (el (vat us' k2) y2) = some (.int .i64 (b : Int))) (((try dsimp only); (repeat' apply And.intro); all_goals (repeat (first | assumption | exact cell_dr (by assumption) | refine cell_dr ?_ | refine cell_al ?_ | refine cell_sc (by assumption) ?_)))) (fail)
  go_wp2_with fail
  go_ret
  exact ⟨rfl, (St.refl w).drew⟩
set_option maxHeartbeats 4000000 in
set_option maxRecDepth 100000 in
theorem productSquare_c (v v' : Value) (us us' : List Value) (n m : Nat) (A B : List (List Int)) (w : World) (hv : RII w v us A) (hv' : RII w v' us' B) (hA : Sq0 n A) (hB : Sq0 m B) (h10 : n * m ≤ 100) (hn2 : n ≤ 100) (hm2 : m ≤ 100) :
    Calls Try.prog 86 #[v, v'] w (MakesII w (pdL n m A B)) := by
  obtain ⟨sa, ca, rfl⟩ := hv.1.sl.sh
  obtain ⟨sb, cb, rfl⟩ := hv'.1.sl.sh
  have hS1 := ((St.refl w).newboxF 37 #[.slice sa us.length ca]).newboxF 37 #[.slice sb us'.length cb]
  have hS2 := hS1.newboxF 2 #[.int .i64 m]
  simp only [World.size_alloc] at hS1 hS2
  have hcf := callFunc_go Try.func117 (by kernel_rfl) (by kernel_rfl)
  have hmf : ∀ (fn : Fn) (first cap : Array Value) (w : World), (Instr.makeFunc fn first cap).run Try.prog w = .ok (.func fn first cap) w := fun _ _ _ _ => rfl
  have HZ := Lib.hid (szII_c _ us' B _ (hS1.oldII hv'))
  rw [hB.len] at HZ
  have HZ2 := fun W a => Lib.hid (szII_c (.slice sa us.length ca) us A W a)
  rw [hA.len] at HZ2
  obtain ⟨N, hN⟩ : ∃ N, N = n * m := ⟨_, rfl⟩
  have hmul : (n : Int) * (m : Int) = (N : Int) := by rw [hN]; rfl
  have hw : IntKind.i64.wrap (N : Int) = (N : Int) := IntWalk.i64_in _ (by omega)
  have hcall := fun W (c0 : W.cell? ⟨w.heap.size + 1 + 1, 0, none⟩ = some (.int .i64 m)) (c1 : W.cell? ⟨w.heap.size, 0, none⟩ = some (.slice sa us.length ca)) (c2 : W.cell? ⟨w.heap.size + 1, 0, none⟩ = some (.slice sb us'.length cb)) (rA : RII W (.slice sa us.length ca) us A) (rB : RII W (.slice sb us'.length cb) us' B) => Lib.hid (filledSquare_c 117 #[.pointer (some ⟨w.heap.size + 1 + 1, 0, none⟩), .pointer (some ⟨w.heap.size, 0, none⟩), .pointer (some ⟨w.heap.size + 1, 0, none⟩)] (fun x y => ((pdF m A B x y : Nat) : Int)) N W (by omega) hcf (fun x y W' hW' hx hy =>
    prod1_c x y (w.heap.size + 1 + 1) w.heap.size (w.heap.size + 1) _ _ us us' n m A B W'
      (by rw [hW'.below.cell (World.block_lt_of_cell? _ _ c0)]; exact c0) (by rw [hW'.below.cell (World.block_lt_of_cell? _ _ c1)]; exact c1) (by rw [hW'.below.cell (World.block_lt_of_cell? _ _ c2)]; exact c2)
      (rA.keep hW'.below) (rB.keep hW'.below) hA hB (by rw [← hN]; exact hx) (by rw [← hN]; exact hy) hn2 hm2))
  have HD := Lib.hid (show pdL n m A B = sqF N fun x y => ((pdF m A B x y : Nat) : Int) by rw [hN]; rfl)
  have hv2 := hS2.oldII hv
  have hv2' := hS2.oldII hv'
  have b0 := hS2.bcell 0 rfl 0 rfl
  have b1 := hS2.bcell 1 rfl 0 rfl
  have b2 := hS2.bcell 2 rfl 0 rfl
  clear hcf hA hB hN
  go_enter Try.func86, Try.ntmps86
  go_wp2_with fail
  refine HZ.out.mono ?_
  rintro e w1 ⟨rfl, rfl⟩
  go_wp2_with fail
  go_region_held3 (fun w' => w'.cell? ⟨w.heap.size + 1 + 1, 0, none⟩ = some (.int .i64 m) ∧ w'.cell? ⟨w.heap.size, 0, none⟩ = some (.slice sa us.length ca)) (((try dsimp only); (repeat' apply And.intro); all_goals (repeat (first | assumption | exact cell_dr (by assumption) | refine cell_dr ?_ | refine cell_al ?_ | refine cell_sc (by assumption) ?_))))
    (first
    | (go_at_call 110; refine (hcall _ (cell_dr b0) (cell_dr b2) (cell_dr b1) (hv2.keep (St.refl _).drew.below) (hv2'.keep (St.refl _).drew.below)).out.mono ?_; rintro e w3 ⟨o, uo, rfl, hl, h3⟩; have hS3 := hS2.drew.call h3; have Hl := Lib.hid hl; have k0 := hS3.bcell 0 rfl 0 rfl; have k2 := hS3.bcell 2 rfl 0 rfl; clear hl)
    | (go_at_call 74; refine (HZ2 _ (hv2.keep (St.refl _).drew.below)).out.mono ?_; rintro e w2 ⟨rfl, rfl⟩))
  all_goals
    go_wp2_with fail
    go_ret
    rw [HD.out]
    exact ⟨o, uo, rfl, Hl.out, hS3.sub (List.sublist_append_right _ _)⟩


section
variable {ops : Array Oper} {o : Oper} {a : Act} {K : Act → World → Prop} {Q : Exit → Act → World → Prop} {E : Prop} {B : Nat} {w0 w : World} {L : List Ent}
/-- append of one square to an owned row of squares, as a step -/
theorem stepSq1 (hS : St B w0 w L) (i : Nat) {v : Value} {us : List Value} (hi : L[i]? = some (row 37 v us)) (hN : us.length < 4294967296) (hg : o.guard = none) (s x : Operand)
    (hop : o.op = .call { callee := .builtin .append, args := #[s, x], argTypes := #[50, 50] }) (hs : a.eval s = v) (u : Value) (hu : u.oneCell' = true) (hx : a.eval x = .slice (some ⟨w.heap.size, 0, none⟩) 1 1)
    (hK : ∀ v' w', St B w0 w' (L.set i (row 37 v' (us ++ [u]))) → K (a.put o.dst v') w') :
    if Region.wanted o (yielded ops a.tmps) = true then Oper.wp Try.prog o a (w.alloc (.cells #[u] 37)) K Q else E :=
  step_st_app1 hg s x 50 hop 37 (.slice none 0 0) 24 Try.und_isss Try.info_iss rfl hS i hi hs u hx hu (by omega) hN hK
end
theorem Orthogonal_c (v v' : Value) (us us' : List Value) (A B : List (List Int)) (w : World) (hv : RII w v us A) (hv' : RII w v' us' B) (hA : Lat A) (hB : Lat B) :
    Calls Try.prog 34 #[v, v'] w (GivesB w (orB A B)) := by
  have V1 := Lib.hid (ValidSquare_c v us A w hv (fun x hx => by rw [hA.len x hx]; have := hA.le; omega))
  rw [latB_yes hA] at V1
  have V2 := fun W a => Lib.hid (ValidSquare_c v' us' B W a (fun x hx => by rw [hB.len x hx]; have := hB.le; omega))
  rw [latB_yes hB] at V2
  have HO := fun W a b => Lib.hid (orthogonal_c v v' us us' A B W a b hA hB)
  clear hA hB
  generalize orB A B = b at *
  go_enter Try.func34, Try.ntmps34
  go_wp2_with fail
  refine V1.out.mono ?_
  rintro e w1 ⟨rfl, h1⟩
  go_wp2_with (first
    | (go_at_call 84; refine (HO _ (h2.oldII hv) (h2.oldII hv')).out.mono ?_; rintro e w3 ⟨rfl, h3⟩; have hS3 := h2.call0 h3)
    | (go_at_call 23; refine (V2 _ (h1.oldII hv')).out.mono ?_; rintro e w2 ⟨rfl, h2'⟩; have h2 := h1.call0 h2'))
  go_ret
  exact ⟨rfl, hS3⟩
set_option maxHeartbeats 8000000 in
set_option maxRecDepth 100000 in
theorem ProductMols_c (v v' : Value) (vs vs' : List Value) (uss uss' : List (List Value)) (X Y : List (List (List Int))) (n m : Nat) (w : World) (hv : RIII w v vs uss X) (hv' : RIII w v' vs' uss' Y) (hX : Mols X) (hY : Mols Y) (hn : n = (x3at X 0).length) (hm : m = (x3at Y 0).length) :
    Calls Try.prog 35 #[v, v'] w (if n * m ≤ 10 then IIIK w (pmL n m X Y (min X.length Y.length)) 0 else IIIK w [] 2) := by
  have sml : ∀ {Z : List (List (List Int))}, Mols Z → Sml Z := fun {Z} hZ k hk x hx => by
    have h := hZ.lat k hk
    rw [h.len x hx]; have := h.le; omega
  have V1 := Lib.hid (ValidMols_c v vs uss X w hv (sml hX))
  rw [molB_yes hX] at V1
  have V2 := fun W a => Lib.hid (ValidMols_c v' vs' uss' Y W a (sml hY))
  rw [molB_yes hY] at V2
  have x1 := hX.pos
  have y1 := hY.pos
  have x10 := hX.le
  have y10 := hY.le
  have n10 : n ≤ 10 := by rw [hn]; exact (hX.lat 0 (by omega)).le
  have m10 : m ≤ 10 := by rw [hm]; exact (hY.lat 0 (by omega)).le
  have sx := Lib.hid (show ∀ i, i < X.length → Sq0 n (x3at X i) from fun i hi => by rw [hn, ← hX.len hi]; exact (hX.lat i hi).sq0)
  have sy := Lib.hid (show ∀ i, i < Y.length → Sq0 m (x3at Y i) from fun i hi => by rw [hm, ← hY.len hi]; exact (hY.lat i hi).sq0)
  have HZ := fun s : SS w.heap.size w [] => Lib.hid (szII_c (vat vs 0) (vsat uss 0) (x3at X 0) s.w ((s.st.oldIII hv).row 0 (by omega)))
  have HZ' := fun s : SS w.heap.size w [] => Lib.hid (szII_c (vat vs' 0) (vsat uss' 0) (x3at Y 0) s.w ((s.st.oldIII hv').row 0 (by omega)))
  rw [← hn] at HZ
  rw [← hm] at HZ'
  have g1 := fun s : SS w.heap.size w [] => (s.st.oldIII hv).cell 0 (show 0 < X.length by omega)
  have g2 := fun s : SS w.heap.size w [] => (s.st.oldIII hv').cell 0 (show 0 < Y.length by omega)
  have hix := hv.ixe
  have hix' := hv'.ixe
  have i0 := hix 0 0 rfl (by omega)
  have i0' := hix' 0 0 rfl (by omega)
  have hlx := hv.len
  have hly := hv'.len
  obtain ⟨N, hN⟩ : ∃ N, N = n * m := ⟨_, rfl⟩
  have hmul : (n : Int) * (m : Int) = (N : Int) := by rw [hN]; rfl
  have hNle : N ≤ 100 := by rw [hN]; exact Nat.mul_le_mul n10 m10
  have hw : IntKind.i64.wrap (N : Int) = (N : Int) := IntWalk.i64_in _ (by omega)
  have Hv := Lib.hid hv
  have Hv' := Lib.hid hv'
  have HNn := Lib.hid hN
  rw [← hN]
  have H0 := Lib.hid (show pmL n m X Y 0 = [] from rfl)
  have HLn := fun k => Lib.hid (pmL_len n m X Y k)
  have HSu := fun k => Lib.hid (pmL_succ n m X Y k)
  have HPl := fun k (h1 : k < X.length) (h2 : k < Y.length) => Lib.hid (pdL_sq0 (sx.out k h1) (sy.out k h2)).len
  clear hX hY hn hm hv hv' hN sml
  by_cases h10 : N ≤ 10
  · rw [if_pos h10]
    by_cases hc : Y.length < X.length
    · have hce : ¬ X.length < Y.length := by omega
      rw [show min X.length Y.length = Y.length by omega]
      have k1 : Y.length ≤ X.length := by omega
      have k2 : Y.length ≤ Y.length := by omega
      go_enter Try.func35, Try.ntmps35
      go_wp2_with fail
      refine V1.out.mono ?_
      rintro e w1 ⟨rfl, h1⟩
      go_wp2_with (go_at_call 32; refine (V2 _ (h1.oldIII Hv'.out)).out.mono ?_; rintro e w2 ⟨rfl, h2'⟩; have hS := h1.call0 h2')
      clear h1 h2'
      have hne : Nonempty (SS _ _ _) := ⟨⟨_, hS⟩⟩
      refine wp_region_st (by kernel_rfl) (by kernel_rfl) hS ?_
      repeat (go_big_quiet_step ((first | (go_at_call_of 74 (vat vs 0); exact st_quiet0 (HZ _).out) | (go_at_call_of 74 (vat vs' 0); exact st_quiet0 (HZ' _).out))))
      refine wpQuiet_nil ?_
      rintro _ ⟨s2, rfl⟩
      have hS3 := s2.st
      generalize s2.w = w3 at hS3 ⊢
      have hS4 := hS3.newnil 37
      simp only [List.nil_append] at hS4
      clear hS hS3 V1 V2
      go_wp2_with fail
      clear g1 g2
      go_loopw [6, 7, 31] (fun o _ i wr => ∃ (k : Nat) (ws : List Value) (wss : List (List Value)), k ≤ Y.length ∧ i = .int .i64 k ∧ Hid (Fit3 ws wss (pmL n m X Y k)) ∧ St w.heap.size w wr (own3 o ws wss (pmL n m X Y k))) (fun _ _ i _ => Y.length - (intOf i).toNat)
      case atStart => exact ⟨0, [], [], by omega, rfl, fitE, hS4⟩
      case round =>
        clear hS4
        obtain ⟨k, ws, wss, hk, rfl, hf, hS⟩ := hrel
        by_cases hlt : k < Y.length
        · have hRx := hS.drew.oldIII Hv.out
          have hRy := hS.drew.oldIII Hv'.out
          have c1 := (hS.oldIII Hv.out).cell k (by omega)
          have c2 := (hS.oldIII Hv'.out).cell k (by omega)
          have ix := hix (k : Int) k rfl (by omega)
          have iy := hix' (k : Int) k rfl (by omega)
          have HP := Lib.hid (productSquare_c (vat vs k) (vat vs' k) (vsat uss k) (vsat uss' k) n m (x3at X k) (x3at Y k) wr.drew (hRx.row k (by omega)) (hRy.row k (by omega)) (sx.out k (by omega)) (sy.out k (by omega)) (by rw [← HNn.out]; omega) (by omega) (by omega))
          have HC := Lib.hid (show ∀ W, RIII W v vs uss X → RIII W v' vs' uss' Y → W.cell? (el v k) = some (vat vs k) ∧ W.cell? (el v' k) = some (vat vs' k) from fun W a b => ⟨a.cell k (by omega), b.cell k (by omega)⟩)
          have Hvl := Lib.hid (show ws.length < 4294967296 by rw [hf.out.1, (HLn k).out]; omega)
          have Hs := HSu k
          clear hRx hRy
          go_wp2_with fail
          go_region_held3 (fun w' => w'.cell? (el v k) = some (vat vs k) ∧ w'.cell? (el v' k) = some (vat vs' k)) (((try dsimp only); (repeat' apply And.intro); all_goals (repeat (first | assumption | exact cell_dr (by assumption) | refine cell_dr ?_ | refine cell_al ?_ | refine cell_sc (by assumption) ?_))))
            (first
            | (refine stepSq1 hS2 0 rfl Hvl.out rfl (.tmp 34) (.tmp 44) rfl (by first | rfl | simp [Act.eval, Act.put]) _ rfl (by first | rfl | simp [Act.eval, Act.put]) ?_; intro v5 w5 hS5; obtain ⟨e1, e2⟩ := HC.out _ (hS5.oldIII Hv.out) (hS5.oldIII Hv'.out))
            | (go_at_call 86; refine HP.out.mono ?_; rintro e w4 ⟨u, us2, rfl, hl2, h2⟩; have Hl2 := Lib.hid hl2; have hS2 := hS.drew.call h2; obtain ⟨ua, uc, hue⟩ := (h2.rd 0 rfl).sl.sh; subst hue; obtain ⟨d1, d2⟩ := HC.out _ (hS2.oldIII Hv.out) (hS2.oldIII Hv'.out); clear hl2 h2))
          all_goals
            have hf5 := Lib.hid (hf.out.snoc (.slice ua us2.length uc) Hl2.out)
            have hS6 := own3_snoc hf.out.1 hf.out.2.1 hS5
            rw [← Hs.out] at hf5 hS6
            go_wp2_with fail
            go_roundw
            case rel => exact ⟨k + 1, _, _, by omega, by go_num, hf5.out, hS6⟩
            case measure => simp [intOf]; omega
        · obtain rfl : k = Y.length := by omega
          go_wp2_with fail
          go_ret2
          exact ⟨_, ws, wss, rfl, hf.out, hS⟩
    · have hce : X.length ≤ Y.length := by omega
      rw [show min X.length Y.length = X.length by omega]
      have k1 : X.length ≤ X.length := by omega
      have k2 : X.length ≤ Y.length := by omega
      go_enter Try.func35, Try.ntmps35
      go_wp2_with fail
      refine V1.out.mono ?_
      rintro e w1 ⟨rfl, h1⟩
      go_wp2_with (go_at_call 32; refine (V2 _ (h1.oldIII Hv'.out)).out.mono ?_; rintro e w2 ⟨rfl, h2'⟩; have hS := h1.call0 h2')
      clear h1 h2'
      have hne : Nonempty (SS _ _ _) := ⟨⟨_, hS⟩⟩
      refine wp_region_st (by kernel_rfl) (by kernel_rfl) hS ?_
      repeat (go_big_quiet_step ((first | (go_at_call_of 74 (vat vs 0); exact st_quiet0 (HZ _).out) | (go_at_call_of 74 (vat vs' 0); exact st_quiet0 (HZ' _).out))))
      refine wpQuiet_nil ?_
      rintro _ ⟨s2, rfl⟩
      have hS3 := s2.st
      generalize s2.w = w3 at hS3 ⊢
      have hS4 := hS3.newnil 37
      simp only [List.nil_append] at hS4
      clear hS hS3 V1 V2
      go_wp2_with fail
      clear g1 g2
      go_loopw [6, 7, 31] (fun o _ i wr => ∃ (k : Nat) (ws : List Value) (wss : List (List Value)), k ≤ X.length ∧ i = .int .i64 k ∧ Hid (Fit3 ws wss (pmL n m X Y k)) ∧ St w.heap.size w wr (own3 o ws wss (pmL n m X Y k))) (fun _ _ i _ => X.length - (intOf i).toNat)
      case atStart => exact ⟨0, [], [], by omega, rfl, fitE, hS4⟩
      case round =>
        clear hS4
        obtain ⟨k, ws, wss, hk, rfl, hf, hS⟩ := hrel
        by_cases hlt : k < X.length
        · have hRx := hS.drew.oldIII Hv.out
          have hRy := hS.drew.oldIII Hv'.out
          have c1 := (hS.oldIII Hv.out).cell k (by omega)
          have c2 := (hS.oldIII Hv'.out).cell k (by omega)
          have ix := hix (k : Int) k rfl (by omega)
          have iy := hix' (k : Int) k rfl (by omega)
          have HP := Lib.hid (productSquare_c (vat vs k) (vat vs' k) (vsat uss k) (vsat uss' k) n m (x3at X k) (x3at Y k) wr.drew (hRx.row k (by omega)) (hRy.row k (by omega)) (sx.out k (by omega)) (sy.out k (by omega)) (by rw [← HNn.out]; omega) (by omega) (by omega))
          have HC := Lib.hid (show ∀ W, RIII W v vs uss X → RIII W v' vs' uss' Y → W.cell? (el v k) = some (vat vs k) ∧ W.cell? (el v' k) = some (vat vs' k) from fun W a b => ⟨a.cell k (by omega), b.cell k (by omega)⟩)
          have Hvl := Lib.hid (show ws.length < 4294967296 by rw [hf.out.1, (HLn k).out]; omega)
          have Hs := HSu k
          clear hRx hRy
          go_wp2_with fail
          go_region_held3 (fun w' => w'.cell? (el v k) = some (vat vs k) ∧ w'.cell? (el v' k) = some (vat vs' k)) (((try dsimp only); (repeat' apply And.intro); all_goals (repeat (first | assumption | exact cell_dr (by assumption) | refine cell_dr ?_ | refine cell_al ?_ | refine cell_sc (by assumption) ?_))))
            (first
            | (refine stepSq1 hS2 0 rfl Hvl.out rfl (.tmp 34) (.tmp 44) rfl (by first | rfl | simp [Act.eval, Act.put]) _ rfl (by first | rfl | simp [Act.eval, Act.put]) ?_; intro v5 w5 hS5; obtain ⟨e1, e2⟩ := HC.out _ (hS5.oldIII Hv.out) (hS5.oldIII Hv'.out))
            | (go_at_call 86; refine HP.out.mono ?_; rintro e w4 ⟨u, us2, rfl, hl2, h2⟩; have Hl2 := Lib.hid hl2; have hS2 := hS.drew.call h2; obtain ⟨ua, uc, hue⟩ := (h2.rd 0 rfl).sl.sh; subst hue; obtain ⟨d1, d2⟩ := HC.out _ (hS2.oldIII Hv.out) (hS2.oldIII Hv'.out); clear hl2 h2))
          all_goals
            have hf5 := Lib.hid (hf.out.snoc (.slice ua us2.length uc) Hl2.out)
            have hS6 := own3_snoc hf.out.1 hf.out.2.1 hS5
            rw [← Hs.out] at hf5 hS6
            go_wp2_with fail
            go_roundw
            case rel => exact ⟨k + 1, _, _, by omega, by go_num, hf5.out, hS6⟩
            case measure => simp [intOf]; omega
        · obtain rfl : k = X.length := by omega
          go_wp2_with fail
          go_ret2
          exact ⟨_, ws, wss, rfl, hf.out, hS⟩
  · rw [if_neg h10]
    have h10' : 10 < N := by omega
    clear h10
    go_enter Try.func35, Try.ntmps35
    go_wp2_with fail
    refine V1.out.mono ?_
    rintro e w1 ⟨rfl, h1⟩
    go_wp2_with (go_at_call 32; refine (V2 _ (h1.oldIII Hv'.out)).out.mono ?_; rintro e w2 ⟨rfl, h2'⟩; have hS := h1.call0 h2'; clear h2')
    have hne : Nonempty (SS _ _ _) := ⟨⟨_, hS⟩⟩
    refine wp_region_st (by kernel_rfl) (by kernel_rfl) hS ?_
    repeat (go_big_quiet_step ((go_at_call 74; first | exact st_quiet0 (HZ _).out | exact st_quiet0 (HZ' _).out)))
    refine wpQuiet_nil ?_
    rintro _ ⟨s2, rfl⟩
    have hS3 := s2.st
    generalize s2.w = w3 at hS3 ⊢
    go_wp2_with fail
    go_ret2
    exact IIIK.no hS3

end Go.Proofs.Ytpfgbbbjldpnnaa
