/- The texts of this claim, run 7: Hd2 Hd3 PDes. -/
import Derived.Test.YtnodcfhdfpeokaaGreatK3
import Derived.Test.YtnodcfhdfpeokaaGreatK4
import Derived.Test.YtnodcfhdfpeokaaGreatK5
import Derived.Test.YtnodcfhdfpeokaaGreatK6

section
/- Walks: Hadamard matrices that the reference makes: products, those of Sylvester and of Paley. Walks: Hadamard matrices that the reference negates, checks and draws. -/
namespace Go.Proofs.YtnodcfhdfpeokaaGreat
set_option linter.unusedSimpArgs false
set_option linter.unusedVariables false
open Go.RowKit
attribute [local go_sem ↓] Go.wp_at_zero Go.wp_at_succ



theorem prF_at {n m i k x y : Nat} {A B : List (List Int)} (hk : k < m) (hy : y < m) : prF m A B (i * m + k) (x * m + y) = at2 A i x * at2 B k y := by
  have h : ∀ a b, b < m → (a * m + b) / m = a ∧ (a * m + b) % m = b := fun a b hb =>
    ⟨by rw [Nat.mul_comm, Nat.mul_add_div (by omega), Nat.div_eq_of_lt hb]; rfl, by rw [Nat.mul_comm, Nat.mul_add_mod, Nat.mod_eq_of_lt hb]⟩
  rw [prF, (h i k hk).1, (h i k hk).2, (h x y hy).1, (h x y hy).2]
theorem mad_lt {n m i k : Nat} (hi : i < n) (hk : k < m) : i * m + k < n * m := by
  have h1 : (i + 1) * m ≤ n * m := Nat.mul_le_mul_right _ (by omega)
  rw [Nat.succ_mul] at h1; omega
set_option maxHeartbeats 4000000 in
set_option maxRecDepth 100000 in
theorem l15Product_c (v v' : Value) (us us' : List Value) (A B : List (List Int)) (n m : Nat) (w : World) (hv : RII w v us A) (hv' : RII w v' us' B) (hA : Had n A) (hB : Had m B) :
    Calls Tryz.prog 60 #[v, v'] w (MakesII w (prH n m A B)) := by
  have hln := hv.len
  rw [hA.sqr.len] at hln
  have hlm := hv'.len
  rw [hB.sqr.len] at hlm
  have hix := hv.ixe
  rw [hA.sqr.len] at hix
  have hix' := hv'.ixe
  rw [hB.sqr.len] at hix'
  have n1 := hA.pos
  have n2 := hA.le
  have m1 := hB.pos
  have m2 := hB.le
  obtain ⟨N, hN⟩ : ∃ N, N = n * m := ⟨_, rfl⟩
  have hNle : N ≤ 1024 := by rw [hN]; exact Nat.mul_le_mul n2 m2
  have H := Lib.hid (And.intro hA hB)
  have Hv := Lib.hid hv
  have Hv' := Lib.hid hv'
  have HN := Lib.hid hN
  rw [prH, ← hN]
  have hS0 := (St.refl w).new 31 #[] (by simp)
  clear hA hB hN hv hv'
  go_enter Tryz.func60, Tryz.ntmps60
  go_wp2_with fail
  go_loopw [5, 6, 7, 8, 9, 10] (fun o i _ _ _ _ wr => ∃ (k r : Nat) (a : Option Addr) (c : Nat) (ws : List Value), k ≤ n ∧ i = .int .i64 k ∧ o = .slice a r c ∧ Hid (r = k * m ∧ ws.length = r) ∧ St w.heap.size w wr (own2 (.slice a r c) ws ((sqF N (prF m A B)).take r))) (fun _ i _ _ _ _ _ => n - (intOf i).toNat)
  case atStart => exact ⟨0, 0, _, 0, [], by omega, rfl, rfl, ⟨by simp, rfl⟩, hS0⟩
  case round =>
    clear hS0
    obtain ⟨i, r0, a, c, ws, hk, rfl, rfl, hw, hS⟩ := hrel
    by_cases hlt : i < n
    · go_wp2_with fail
      go_loopw [5, 7, 8, 9, 10] (fun o j _ _ _ wr => ∃ (k r : Nat) (a : Option Addr) (c : Nat) (ws : List Value), k ≤ m ∧ j = .int .i64 k ∧ o = .slice a r c ∧ Hid (r = i * m + k ∧ ws.length = r) ∧ St w.heap.size w wr (own2 (.slice a r c) ws ((sqF N (prF m A B)).take r))) (fun _ j _ _ _ _ => m - (intOf j).toNat)
      case atStart => exact ⟨0, r0, a, c, ws, by omega, rfl, rfl, ⟨by rw [hw.out.1]; rfl, hw.out.2⟩, hS⟩
      case round =>
        clear hS hw
        obtain ⟨k, r, a, c, ws, hk, rfl, rfl, hw, hS⟩ := hrel
        by_cases hlk : k < m
        · have hS2 := (hS.new 2 #[] (by simp)).perm List.perm_append_comm
          simp only [List.cons_append, List.nil_append] at hS2
          have hrN := Lib.hid (show r < N by rw [HN.out, hw.out.1]; exact mad_lt hlt hlk)
          clear hS
          go_wp2_with fail
          go_loopw [8, 9, 10] (fun l x _ wx => ∃ (x' t : Nat), x' ≤ n ∧ x = .int .i64 x' ∧ Hid (t = x' * m) ∧ St w.heap.size w wx (row 2 l (iv (tab t (prF m A B r))) :: own2 (.slice a r c) ws ((sqF N (prF m A B)).take r))) (fun _ x _ _ => n - (intOf x).toNat)
          case atStart => exact ⟨0, 0, by omega, rfl, by simp [Hid], hS2⟩
          case round =>
            clear hS2
            obtain ⟨x, t0, hx, rfl, ht0, hS3⟩ := hrel
            by_cases hlx : x < n
            · go_wp2_with fail
              go_loopw [8, 10] (fun l y wx => ∃ (y' t : Nat), y' ≤ m ∧ y = .int .i64 y' ∧ Hid (t = x * m + y') ∧ St w.heap.size w wx (row 2 l (iv (tab t (prF m A B r))) :: own2 (.slice a r c) ws ((sqF N (prF m A B)).take r))) (fun _ y _ => m - (intOf y).toNat)
              case atStart => exact ⟨0, t0, by omega, rfl, by rw [ht0.out]; rfl, hS3⟩
              case round =>
                clear hS3 ht0
                obtain ⟨y, t, hy, rfl, ht, hS3⟩ := hrel
                by_cases hly : y < m
                · obtain ⟨hA, hB⟩ := H.out
                  have e1 := Hv.out.cell i (by rw [hA.sqr.len]; exact hlt)
                  have hrow := Hv.out.row i (by rw [hA.sqr.len]; exact hlt)
                  have hri := hrow.ixe (x : Int) x rfl (by rw [hA.sqr.row i hlt]; exact hlx)
                  have e2 : w.cell? (el (vat us i) x) = some (.int .i64 (at2 A i x)) := hrow.cell x (by rw [hA.sqr.row i hlt]; exact hlx)
                  have e3 := Hv'.out.cell k (by rw [hB.sqr.len]; exact hlk)
                  have hrow' := Hv'.out.row k (by rw [hB.sqr.len]; exact hlk)
                  have hri' := hrow'.ixe (y : Int) y rfl (by rw [hB.sqr.row k hlk]; exact hly)
                  have e4 : w.cell? (el (vat us' k) y) = some (.int .i64 (at2 B k y)) := hrow'.cell y (by rw [hB.sqr.row k hlk]; exact hly)
                  have x1 := hix (i : Int) i rfl hlt
                  have x2 := hix' (k : Int) k rfl hlk
                  have pa := (hA.el i x hlt hlx).mul (hB.el k y hlk hly)
                  have Hz := Lib.hid (show prF m A B r t = at2 A i x * at2 B k y by rw [hw.out.1, ht.out]; exact prF_at (n := n) hlk hly)
                  generalize at2 A i x = va at *
                  generalize at2 B k y = vb at *
                  have q1 : IntKind.i64.wrap (va * vb) = va * vb := IntWalk.i64_in _ (by have := pa.bd; omega)
                  have Hml := Lib.hid (show (tab t (prF m A B r)).length < 4294967296 by
                    rw [tab_len, ht.out]; have := mad_lt hlx hly; rw [← HN.out] at this; omega)
                  have c1 := cell_keepF hS3.below e1
                  have c2 := cell_keepF hS3.below e2
                  have c3 := cell_keepF hS3.below e3
                  have c4 := cell_keepF hS3.below e4
                  have E1 := Lib.hid e1
                  have E2 := Lib.hid e2
                  have E3 := Lib.hid e3
                  have E4 := Lib.hid e4
                  clear pa hrow hrow' hA hB e1 e2 e3 e4
                  have Q1 := Lib.hid q1
                  clear q1
                  go_wp2_with fail
                  go_region_held3 (fun w' => w'.cell? (el v i) = some (vat us i) ∧ w'.cell? (el (vat us i) x) = some (.int .i64 va) ∧ w'.cell? (el v' k) = some (vat us' k) ∧ w'.cell? (el (vat us' k) y) = some (.int .i64 vb)) (((try dsimp only); (repeat' apply And.intro); all_goals (repeat (first | assumption | exact cell_dr (by assumption) | refine cell_dr ?_ | refine cell_al ?_ | refine cell_sc (by assumption) ?_))))
                    (first
                    | (refine stepI1 hS3.drew 0 rfl Hml.out rfl (.tmp 37) (.tmp 53) rfl (by first | rfl | simp [Act.eval, Act.put]) _ (by first | rfl | simp [Act.eval, Act.put]) ?_; intro v5 w5 hS5; have d1 := cell_keepF hS5.below E1.out; have d2 := cell_keepF hS5.below E2.out; have d3 := cell_keepF hS5.below E3.out; have d4 := cell_keepF hS5.below E4.out))
                  all_goals
                    go_wp2_with fail
                    go_roundw
                    case rel => exact ⟨y + 1, t + 1, by omega, by go_num, by simp [Hid, ht.out]; omega, by rw [Q1.out] at hS5; rw [tab_succ, Hz.out]; exact hS5⟩
                    case measure => simp [intOf]; omega
                · obtain rfl : y = m := by omega
                  go_wp2_with fail
                  go_roundw
                  case rel => exact ⟨x + 1, t, by omega, by go_num, by rw [ht.out, Nat.succ_mul]; rfl, hS3⟩
                  case measure => simp [intOf]; omega
            · obtain rfl : x = n := by omega
              have ht : t0 = N := by rw [ht0.out, HN.out]
              subst ht
              obtain ⟨la, lc, hle⟩ := (hS3.rdI 0 rfl).shp'
              rw [tab_len] at hle
              subst hle
              have Hsn := Lib.hid (sqF_take (f := prF m A B) hrN.out)
              have Hlw := Lib.hid (show ws.length = ((sqF t0 (prF m A B)).take r).length by rw [hw.out.2, List.length_take, sqF_len]; have := hrN.out; omega)
              go_wp2_with (at_builtin; refine appII hS3 1 rfl (by rw [hw.out.2]; have := hrN.out; omega) rfl _ _ rfl rfl _ rfl rfl ?_; intro v5 w5 hS5; obtain ⟨oa, oc, hoe⟩ := (hS5.rd 1 rfl).sl.sh; rw [List.length_append, hw.out.2, List.length_singleton] at hoe; subst hoe)
              go_roundw
              case rel =>
                refine ⟨k + 1, r + 1, oa, oc, ws ++ [.slice la t0 lc], by omega, by go_num, rfl, by simp [Hid, hw.out.2]; rw [hw.out.1]; omega, ?_⟩
                rw [Hsn.out, own2, rowsI_app Hlw.out]
                refine hS5.perm ?_
                simp only [own2, List.set_cons_succ, List.set_cons_zero, List.cons_append]
                exact (List.perm_append_comm (l₁ := [_]))
              case measure => simp [intOf]; omega
        · obtain rfl : k = m := by omega
          go_wp2_with fail
          go_roundw
          case rel => exact ⟨i + 1, r, a, c, ws, by omega, by go_num, rfl, ⟨by rw [hw.out.1, Nat.succ_mul], hw.out.2⟩, hS⟩
          case measure => simp [intOf]; omega
    · obtain rfl : i = n := by omega
      have hr : r0 = N := by rw [hw.out.1, HN.out]
      subst hr
      rw [List.take_of_length_le (by rw [sqF_len]; omega)] at hS
      go_wp2_with fail
      go_ret
      exact ⟨_, ws, rfl, by rw [hw.out.2, sqF_len], hS⟩
theorem size_al (w : World) (o : Obj) : (w.alloc o).heap.size = w.heap.size + 1 := Array.size_push ..
theorem syl2_rii (wr : World) : ∃ us, RII (((wr.alloc (.cells #[.int .i64 1, .int .i64 1] 2)).alloc (.cells #[.int .i64 1, .int .i64 (-1)] 2)).alloc (.cells #[.slice (some ⟨wr.heap.size, 0, none⟩) 2 2, .slice (some ⟨wr.heap.size + 1, 0, none⟩) 2 2] 31)) (.slice (some ⟨wr.heap.size + 1 + 1, 0, none⟩) 2 2) us syl2 ∧
    St wr.heap.size wr (((wr.alloc (.cells #[.int .i64 1, .int .i64 1] 2)).alloc (.cells #[.int .i64 1, .int .i64 (-1)] 2)).alloc (.cells #[.slice (some ⟨wr.heap.size, 0, none⟩) 2 2, .slice (some ⟨wr.heap.size + 1, 0, none⟩) 2 2] 31)) (own2 (.slice (some ⟨wr.heap.size + 1 + 1, 0, none⟩) 2 2) us syl2) := by
  have t1 := (St.refl wr).new 2 #[.int .i64 1, .int .i64 1] (by simp [maxLen])
  have t2 := t1.new 2 #[.int .i64 1, .int .i64 (-1)] (by simp [maxLen])
  have t3 := t2.new 31 #[.slice (some ⟨wr.heap.size, 0, none⟩) 2 2, .slice (some ⟨wr.heap.size + 1, 0, none⟩) 2 2] (by simp [maxLen])
  have e1 : (wr.alloc (.cells #[.int .i64 1, .int .i64 1] 2)).heap.size = wr.heap.size + 1 := size_al _ _
  have e2 : ((wr.alloc (.cells #[.int .i64 1, .int .i64 1] 2)).alloc (.cells #[.int .i64 1, .int .i64 (-1)] 2)).heap.size = wr.heap.size + 1 + 1 := by rw [size_al, size_al]
  rw [e2, e1] at t3
  have t4 : St wr.heap.size wr (((wr.alloc (.cells #[.int .i64 1, .int .i64 1] 2)).alloc (.cells #[.int .i64 1, .int .i64 (-1)] 2)).alloc (.cells #[.slice (some ⟨wr.heap.size, 0, none⟩) 2 2, .slice (some ⟨wr.heap.size + 1, 0, none⟩) 2 2] 31)) (own2 (.slice (some ⟨wr.heap.size + 1 + 1, 0, none⟩) 2 2) [.slice (some ⟨wr.heap.size, 0, none⟩) 2 2, .slice (some ⟨wr.heap.size + 1, 0, none⟩) 2 2] syl2) :=
    t3.perm (List.perm_append_comm (l₁ := [_, _]))
  exact ⟨_, t4.rii rfl, t4⟩
set_option maxHeartbeats 4000000 in
set_option maxRecDepth 100000 in
theorem l15Sylvester_c (k : Nat) (w : World) (hk : k ≤ 5) : Calls Tryz.prog 37 #[.int .i64 k] w (MakesII w (sylL k)) := by
  have HP := fun v v' us us' B m W h1 h2 h3 => Lib.hid (l15Product_c v v' us us' syl2 B 2 m W h1 h2 syl2_had h3)
  have HS := fun W => Lib.hid (syl2_rii W)
  have h1 := (St.refl w).new 2 #[.int .i64 1] (by simp [maxLen])
  have h2 := ((h1.new 31 #[.slice (some ⟨w.heap.size, 0, none⟩) 1 1] (by simp [maxLen])).perm List.perm_append_comm)
  rw [size_al] at h2
  clear h1
  go_enter Tryz.func37, Tryz.ntmps37
  go_wp2_with fail
  go_loopw [0, 3] (fun i o wr => ∃ (j : Nat) (ws : List Value), j ≤ k ∧ i = .int .i64 ((k - j : Nat) : Int) ∧ Hid (ws.length = (sylL j).length) ∧ St w.heap.size w wr (own2 o ws (sylL j))) (fun i _ _ => (intOf i).toNat)
  case atStart => exact ⟨0, [_], by omega, rfl, Lib.hid rfl, h2⟩
  case round =>
    clear h2
    obtain ⟨j, ws, hj, rfl, hw, hS⟩ := hrel
    have hr := Lib.hid (hS.rii hw.out)
    by_cases hlt : j < k
    · have hlt' : 0 < k - j := by omega
      obtain ⟨us, H⟩ := (HS wr).out
      have H := Lib.hid H
      have Ha := Lib.hid (hr.out.keep H.out.2.below)
      have Hh := Lib.hid (sylL_had (k := j) (by omega))
      go_wp2_with fail
      refine (HP _ _ _ _ _ _ _ H.out.1 Ha.out Hh.out).out.mono ?_
      rintro e w2 ⟨o, wo, rfl, hl, h3⟩
      have hS3 := (hS.call H.out.2).trans h3
      go_wp2_with fail
      go_roundw
      case rel => exact ⟨j + 1, wo, by omega, by rw [show k - (j + 1) = k - j - 1 by omega]; go_num, Lib.hid hl, hS3⟩
      case measure => simp [intOf]; omega
    · obtain rfl : j = k := by omega
      have e0 : j - j = 0 := by omega
      rw [e0]
      go_wp2_with fail
      go_ret
      exact ⟨_, ws, rfl, hw.out, hS⟩
set_option maxHeartbeats 4000000 in
set_option maxRecDepth 100000 in
theorem l03Squares_c (p : Int) (D : Nat) (g : Nat) (v : Value) (fs : List Int) (q : Nat) (w : World) (hv : RdI w v fs) (hbx : BoxF w g p D v) (hf : FV p D fs) (hq : p ^ D = (q : Int)) (q1 : 1 ≤ q) (q2 : q ≤ 64) :
    Calls Tryz.prog 63 #[.pointer (some ⟨g, 0, none⟩)] w (MakesI w (sqsL p D fs (q - 1))) := by
  have HZ := fun W (hb : BoxF W g p D v) => Lib.hid (l03Size_c p D g v fs W hb hf)
  simp only [Int.toNat_natCast, hq] at HZ
  have HM := fun a W (hv : RdI W v fs) (hb : BoxF W g p D v) (a0 : 0 ≤ a) (a1 : a ≤ 1000000) => Lib.hid (l03Mul_c p D g v fs a a W hv hb hf a0 a1 a0 a1)
  have HP := fun v xs n W h1 h2 => Lib.hid (l00PutX_c v xs n W h1 h2)
  have HB := Lib.hid hbx
  have Hv := Lib.hid hv
  have hS0 := (St.refl w).new 2 #[] (by simp)
  clear hbx hv hf hq
  go_enter Tryz.func63, Tryz.ntmps63
  go_wp2_with fail
  go_loopw [3, 4] (fun o i wr => ∃ (k : Nat), k + 1 ≤ q ∧ i = .int .i64 ((k : Int) + 1) ∧ St w.heap.size w wr [row 2 o (iv (sqsL p D fs k))]) (fun _ i _ => q - (intOf i).toNat)
  case atStart => exact ⟨0, by omega, rfl, hS0⟩
  case round =>
    clear hS0
    obtain ⟨k, hk, rfl, hS⟩ := hrel
    go_wp2_with fail
    refine (HZ _ (hS.oldF HB.out)).out.mono ?_
    rintro e w2 ⟨rfl, h2⟩
    have hS2 := hS.call0 h2
    by_cases hlt : k + 1 < q
    · have hl := sqsL_len p D fs k
      go_wp2_with fail
      refine (HM _ _ (hS2.oldI Hv.out) (hS2.oldF HB.out) (by omega) (by omega)).out.mono ?_
      rintro e w3 ⟨rfl, h3⟩
      have hS3 := hS2.call0 h3
      go_wp2_with fail
      refine (HP _ _ _ _ (hS3.rdI 0 rfl) (by omega)).out.mono ?_
      rintro e w4 ⟨v4, rfl, h4⟩
      have hS4 := hS3.trans h4
      go_wp2_with fail
      go_roundw
      case rel => exact ⟨k + 1, by omega, by go_num, hS4⟩
      case measure => simp [intOf]; omega
    · have hkq : q - 1 = k := by omega
      go_wp2_with fail
      go_ret
      rw [hkq]
      exact ⟨_, rfl, hS2⟩
theorem payP_len (p : Int) (D : Nat) (sq : List Int) (q k : Nat) : (payP p D sq q k).length = k + 1 := by simp [payP]
theorem payP_succ (p : Int) (D : Nat) (sq : List Int) (q k : Nat) : payP p D sq q (k + 1) = payP p D sq q k ++ [payR p D sq q k q] := by simp [payP, List.range_succ]
theorem payR_succ (p : Int) (D : Nat) (sq : List Int) (q x k : Nat) : payR p D sq q x (k + 1) = payR p D sq q x k ++ [payS p D sq x k] := by rw [payR, payR, tab_succ]; rfl
theorem payR_len (p : Int) (D : Nat) (sq : List Int) (q x k : Nat) : (payR p D sq q x k).length = k + 1 := by simp [payR, tab_len]
set_option maxHeartbeats 8000000 in
set_option maxRecDepth 100000 in
theorem l15Paley_c (q : Nat) (w : World) (h2 : 2 ≤ q) (h31 : q ≤ 31) (hmk : MK q) :
    Calls Tryz.prog 40 #[.int .i64 q] w (MakesII w (payL ((spl q).1 : Nat) (spl q).2 (mkF q) q)) := by
  have HM := fun W => Lib.hid (l03Make_c q W h2 (by omega) hmk)
  have hfv := hmk.fv (by omega)
  have hpw : (((spl q).1 : Nat) : Int) ^ (spl q).2 = (q : Int) := by rw [← Int.natCast_pow, hmk.pw]
  have hel := fun (j : Nat) (hj : j < q) => (show El ((spl q).1 : Nat) (spl q).2 (j : Int) from ⟨by omega, by rw [hpw]; omega⟩)
  rw [payL]
  clear hmk
  generalize (spl q).1 = P at *
  generalize (spl q).2 = D at *
  generalize mkF q = F at *
  have p2 := hfv.p2
  have p64 := hfv.p64
  have HQ := fun g v W hv hb => Lib.hid (l03Squares_c P D g v F q W hv hb hfv hpw (by omega) (by omega))
  have HS := fun g v (a b : Nat) W hb ha hb2 => Lib.hid (l03Sum_c P D g v F a b ((P : Int) - 1) W hb hfv (show (0 : Int) ≤ a by omega) ha (show (0 : Int) ≤ b by omega) hb2 (by omega) (by omega))
  have HH := fun v xs n W h => Lib.hid (l00Has_c v xs n W h)
  have hS0 := St.refl w
  go_enter Tryz.func40, Tryz.ntmps40
  go_wp2_with fail
  refine (HM _).out.mono ?_
  rintro e w1 ⟨v1, rfl, h1⟩
  obtain ⟨a1, c1, he1⟩ := (h1.rdI 0 rfl).shp'
  subst he1
  have hS2 := h1.newboxF 81 #[.int .i64 P, .int .i64 D, .slice a1 F.length c1]
  have hr := hS2.rdI 1 rfl
  have hb : BoxF (w1.alloc (.cells #[.int .i64 P, .int .i64 D, .slice a1 F.length c1] 81)) w1.heap.size P D (.slice a1 F.length c1) := ⟨hS2.bcell 0 rfl 0 rfl, hS2.bcell 0 rfl 1 rfl, hS2.bcell 0 rfl 2 rfl⟩
  unfold fv
  clear hS0 h1 HM
  go_wp2_with fail
  refine (HQ _ _ _ hr hb).out.mono ?_
  rintro e w3 ⟨vq, rfl, h3⟩
  have hS3 := hS2.trans h3
  have hr3 := Lib.hid (h3.oldI hr)
  have hb3 := Lib.hid (h3.oldF hb)
  have hq3 := Lib.hid (h3.rdI 0 rfl)
  generalize sqsL P D F (q - 1) = sq at *
  have HW := Lib.hid hS3
  clear hS2 h3 hr hb HQ hS3
  have hN := (St.refl w3).new 2 #[.int .i64 1] (by simp [maxLen])
  go_wp2_with fail
  go_loopw [5, 6] (fun o i wr => ∃ k : Nat, k ≤ q ∧ i = .int .i64 k ∧ St w3.heap.size w3 wr [row 2 o (iv ((1 : Int) :: tab k fun _ => 1))]) (fun _ i _ => q - (intOf i).toNat)
  case atStart => exact ⟨0, by omega, rfl, hN⟩
  case round =>
    clear hN
    obtain ⟨k, hk, rfl, hS⟩ := hrel
    by_cases hlt : k < q
    · have Hml := Lib.hid (show ((1 : Int) :: tab k fun _ => 1).length < 4294967296 by rw [List.length_cons, tab_len]; omega)
      go_wp2_with (at_builtin; refine appI hS 0 rfl Hml.out rfl _ _ rfl rfl _ rfl ?_; intro v5 w5 hS5)
      go_roundw
      case rel => exact ⟨k + 1, by omega, by go_num, by rw [tab_succ]; exact hS5⟩
      case measure => simp [intOf]; omega
    · obtain rfl : k = q := by omega
      obtain ⟨fa, fc, hfe⟩ := (hS.rdI 0 rfl).shp'
      rw [List.length_cons, tab_len] at hfe
      subst hfe
      have hN := (hS.new 31 #[.slice fa (k + 1) fc] (by simp [maxLen])).perm List.perm_append_comm
      clear hS
      go_wp2_with fail
      go_loopw [7, 8, 9, 10, 11] (fun o i _ _ _ wr => ∃ (x : Nat) (a : Option Addr) (c : Nat) (ws : List Value), x ≤ k ∧ i = .int .i64 x ∧ o = .slice a (x + 1) c ∧ Hid (ws.length = x + 1) ∧ St w3.heap.size w3 wr (own2 (.slice a (x + 1) c) ws (payP P D sq k x))) (fun _ i _ _ _ _ => k - (intOf i).toNat)
      case atStart => exact ⟨0, _, 1, [_], by omega, rfl, rfl, rfl, hN⟩
      case round =>
        clear hN
        obtain ⟨x, a, c, ws, hx, rfl, rfl, hw, hS⟩ := hrel
        by_cases hlx : x < k
        · have hS2 := (hS.new 2 #[.int .i64 1] (by simp [maxLen])).perm List.perm_append_comm
          simp only [List.cons_append, List.nil_append] at hS2
          clear hS
          go_wp2_with fail
          go_loopw [9, 10, 11] (fun l j _ wx => ∃ (y : Nat), y ≤ k ∧ j = .int .i64 y ∧ St w3.heap.size w3 wx (row 2 l (iv (payR P D sq k x y)) :: own2 (.slice a (x + 1) c) ws (payP P D sq k x))) (fun _ j _ _ => k - (intOf j).toNat)
          case atStart => exact ⟨0, by omega, rfl, hS2⟩
          case round =>
            clear hS2
            obtain ⟨y, hy, rfl, hS3⟩ := hrel
            by_cases hly : y < k
            · have b0 := (hS3.oldF hb3.out).1
              have hws := IntWalk.i64_in ((P : Int) - 1) (by omega)
              have Hml := Lib.hid (show (payR P D sq k x y).length < 4294967296 by rw [payR_len]; omega)
              have e1 := ((hel y hly).lim hfv).2
              have e2 := ((hel x hlx).lim hfv).2
              have Hsn := Lib.hid (payR_succ P D sq k x y)
              by_cases hm : fsum P D (y : Int) (x : Int) ((P : Int) - 1) ∈ sq
              · have hd : decide (fsum P D (y : Int) (x : Int) ((P : Int) - 1) ∈ sq) = true := by simp [hm]
                have Hpa := Lib.hid (show payS P D sq x y = 1 by rw [payS, if_pos hm])
                clear hm
                go_wp2_with fail
                refine (HS _ _ y x _ (hS3.oldF hb3.out) e1 e2).out.mono ?_
                rintro e w4 ⟨rfl, h4⟩
                have hS4 := hS3.call0 h4
                go_wp2_with fail
                refine (HH _ _ _ _ (hS4.oldI hq3.out)).out.mono ?_
                rw [hd]
                rintro e w5 ⟨rfl, rfl⟩
                clear hS3 h4 b0
                go_wp2_with (at_builtin; refine appI hS4 0 rfl Hml.out rfl _ _ rfl rfl _ rfl ?_; intro v6 w6 hS6)
                go_roundw
                case rel => exact ⟨y + 1, by omega, by go_num, by rw [Hsn.out, Hpa.out]; exact hS6⟩
                case measure => simp [intOf]; omega
              · have hd : decide (fsum P D (y : Int) (x : Int) ((P : Int) - 1) ∈ sq) = false := by simp [hm]
                have Hpa := Lib.hid (show payS P D sq x y = -1 by rw [payS, if_neg hm])
                clear hm
                go_wp2_with fail
                refine (HS _ _ y x _ (hS3.oldF hb3.out) e1 e2).out.mono ?_
                rintro e w4 ⟨rfl, h4⟩
                have hS4 := hS3.call0 h4
                go_wp2_with fail
                refine (HH _ _ _ _ (hS4.oldI hq3.out)).out.mono ?_
                rw [hd]
                rintro e w5 ⟨rfl, rfl⟩
                clear hS3 h4 b0
                go_wp2_with (at_builtin; refine appI hS4 0 rfl Hml.out rfl _ _ rfl rfl _ rfl ?_; intro v6 w6 hS6)
                go_roundw
                case rel => exact ⟨y + 1, by omega, by go_num, by rw [Hsn.out, Hpa.out]; exact hS6⟩
                case measure => simp [intOf]; omega
            · obtain rfl : y = k := by omega
              obtain ⟨la, lc, hle⟩ := (hS3.rdI 0 rfl).shp'
              rw [payR_len] at hle
              subst hle
              have Hsn := Lib.hid (payP_succ P D sq y x)
              have Hlw := Lib.hid (show ws.length = (payP P D sq y x).length by rw [hw.out, payP_len])
              go_wp2_with (at_builtin; refine appII hS3 1 rfl (by rw [hw.out]; omega) rfl _ _ rfl rfl _ rfl rfl ?_; intro v5 w5 hS5; obtain ⟨oa, oc, hoe⟩ := (hS5.rd 1 rfl).sl.sh; rw [List.length_append, hw.out, List.length_singleton] at hoe; subst hoe)
              go_roundw
              case rel =>
                refine ⟨x + 1, oa, oc, ws ++ [.slice la (y + 1) lc], by omega, by go_num, rfl, by simp [Hid, hw.out], ?_⟩
                rw [Hsn.out, own2, rowsI_app Hlw.out]
                refine hS5.perm ?_
                simp only [own2, List.set_cons_succ, List.set_cons_zero, List.cons_append]
                exact (List.perm_append_comm (l₁ := [_]))
              case measure => simp [intOf]; omega
        · obtain rfl : x = k := by omega
          go_wp2_with fail
          go_ret
          exact ⟨_, ws, rfl, by rw [hw.out, payP_len], HW.out.trans hS⟩



set_option maxHeartbeats 8000000 in
set_option maxRecDepth 100000 in
theorem l15Negate_c (v : Value) (us : List Value) (H : List (List Int)) (n line : Nat) (row : Bool) (w : World) (hv : RII w v us H) (hH : Had n H) (hline : line < n) :
    Calls Tryz.prog 42 #[v, .int .i64 line, .bool row] w (MakesII w (ngL n H line row)) := by
  have hln := hv.len
  rw [hH.sqr.len] at hln
  have n2 := hH.le
  have Hel := Lib.hid (fun (row : Bool) (k x y : Nat) (hx : x < n) (hy : y < n) => (show Pm (at2 (ngP n H line row k) x y) by
    rw [ngP, at2_sqF hx hy, ngF]; split
    · exact (hH.el x y hx hy).neg
    · exact hH.el x y hx hy))
  have H0 := Lib.hid (ngP_0 hH.sqr line row)
  have hsl := hH.sqr.len
  have HO := Lib.hid (l17Own_c v us H w hv (by omega) (fun r hr => by obtain ⟨j, hj, rfl⟩ := List.getElem_of_mem hr; rw [← xat_eq hj, hH.sqr.row j (by omega)]; omega))
  have Hsl := Lib.hid hsl
  clear hsl
  clear hH hv
  go_enter Tryz.func42, Tryz.ntmps42
  go_wp2_with fail
  refine HO.out.mono ?_
  rintro e w2 ⟨o, uo, rfl, hl, hS2⟩
  rw [Hsl.out] at hl
  have Hl := Lib.hid hl
  have hS3 : St w.heap.size w w2 (own2 o uo (ngP n H line row 0) ++ []) := by rw [List.append_nil, H0.out]; exact hS2
  clear hS2 hl
  go_wp2_with fail
  go_loopw [8] (fun i wr => ∃ (k : Nat), k ≤ n ∧ i = .int .i64 k ∧ St w.heap.size w wr (own2 o uo (ngP n H line row k) ++ [])) (fun i _ => n - (intOf i).toNat)
  case atStart => exact ⟨0, by omega, rfl, hS3⟩
  case round =>
    clear hS3
    obtain ⟨k, hk, rfl, hS⟩ := hrel
    by_cases hlt : k < n
    · have hk := hlt
      cases row
      · have hsq : Sqr n (ngP n H line false k) := sqF_sqr _ _
        have hsl := hsq.len
        have hsa := hsq.row k hk
        have hlS : uo.length = (ngP n H line false k).length := by rw [Hl.out, hsl]
        have hR := rii2 hS hlS
        have hat := hS.at_row hlS (j := k) (by rw [hsl]; exact hk)
        have z0 := hR.cell k (by rw [hsl]; exact hk)
        have xo := hR.ixe (k : Int) k rfl (by rw [hsl]; exact hk)
        have xb := (hS.rdI (k + 1) hat).ixe (line : Int) line rfl (by rw [hsa]; exact hline)
        have u1 := hS.unfrozen (k + 1) hat (j := line) (by rw [iv_len, hsa]; exact hline)
        have co1 : wr.cell? (el (vat uo k) line) = some (.int .i64 (at2 (ngP n H line false k) k line)) := (hS.rdI (k + 1) hat).cell line (by rw [hsa]; exact hline)
        have q1 : wrap64 (-at2 (ngP n H line false k) k line) = -at2 (ngP n H line false k) k line := by
          have := (Hel.out false k k line hk hline).bd; unfold wrap64; omega
        have HS9 := Lib.hid (hS.drew.store (k + 1) hat (j := line) (by rw [iv_len, hsa]; exact hline) (.int .i64 (-at2 (ngP n H line false k) k line)))
        have Hst2 := Lib.hid (ngP_col (H := H) hline hlt)
        have Hset := Lib.hid (own2_set (v := o) (L2 := []) hlS (j := k) (by rw [hsl]; exact hk) ((xat (ngP n H line false k) k).set line (-at2 (ngP n H line false k) k line)))
        clear hR hat hlS hsl hsa hS hsq
        have Q1 := Lib.hid q1
        clear q1
        unfold putS at Hst2
        go_wp2_with fail
        refine regionG (fun w' => w'.cell? (el o k) = some (vat uo k) ∧ w'.cell? (el (vat uo k) line) = some (.int .i64 (at2 (ngP n H line false k) k line))) 14 (by kernel_rfl) ⟨cell_dr z0, cell_dr co1⟩ (fun hHeld => ?_)
        refine takeP (i := 0) (v := ?_) rfl (by kernel_rfl) (fun _ _ _ h => h) (by rfl) ?_ (by assumption) ?_
        case refine_2 => (intro w'; go_simp; first | done | with_reducible rfl)
        try simp only [Act.put, List.setIfInBounds_toArray, List.set_cons_zero, List.set_cons_succ]
        refine takeP (i := 1) (v := ?_) rfl (by kernel_rfl) (fun _ _ _ h => h) (by rfl) ?_ (by assumption) ?_
        case refine_2 => (intro w'; go_simp; first | done | with_reducible rfl)
        try simp only [Act.put, List.setIfInBounds_toArray, List.set_cons_zero, List.set_cons_succ]
        refine takeP (i := 2) (v := ?_) rfl (by kernel_rfl) (fun _ _ _ h => h) (by rfl) ?_ (by assumption) ?_
        case refine_2 => (intro w'; go_simp; first | done | with_reducible rfl)
        try simp only [Act.put, List.setIfInBounds_toArray, List.set_cons_zero, List.set_cons_succ]
        refine takeH (i := 3) [13] (v := ?_) rfl (by kernel_rfl) (fun _ _ _ h => h) (by rfl) ?_ (by assumption) ?_
        case refine_2 => (intro w' hSw; (try dsimp only at hSw); go_simp; first | done | with_reducible rfl)
        try simp only [Act.put, List.setIfInBounds_toArray, List.set_cons_zero, List.set_cons_succ]
        refine takeP (i := 4) (v := ?_) rfl (by kernel_rfl) (fun _ _ _ h => h) (by rfl) ?_ (by assumption) ?_
        case refine_2 => (intro w'; go_simp; first | done | with_reducible rfl)
        try simp only [Act.put, List.setIfInBounds_toArray, List.set_cons_zero, List.set_cons_succ]
        refine takeP (i := 5) (v := ?_) rfl (by kernel_rfl) (fun _ _ _ h => h) (by rfl) ?_ (by assumption) ?_
        case refine_2 => (intro w'; go_simp; first | done | with_reducible rfl)
        try simp only [Act.put, List.setIfInBounds_toArray, List.set_cons_zero, List.set_cons_succ]
        refine takeP (i := 6) (v := ?_) rfl (by kernel_rfl) (fun _ _ _ h => h) (by rfl) ?_ (by assumption) ?_
        case refine_2 => (intro w'; go_simp; first | done | with_reducible rfl)
        try simp only [Act.put, List.setIfInBounds_toArray, List.set_cons_zero, List.set_cons_succ]
        refine takeP (i := 7) (v := ?_) rfl (by kernel_rfl) (fun _ _ _ h => h) (by rfl) ?_ (by assumption) ?_
        case refine_2 => (intro w'; go_simp; first | done | with_reducible rfl)
        try simp only [Act.put, List.setIfInBounds_toArray, List.set_cons_zero, List.set_cons_succ]
        refine takeH (i := 8) [10, 11, 12] (v := ?_) rfl (by kernel_rfl) (fun _ _ _ h => h) (by rfl) ?_ (by assumption) ?_
        case refine_2 => (intro w' hSw; (try dsimp only at hSw); go_simp; first | done | with_reducible rfl)
        try simp only [Act.put, List.setIfInBounds_toArray, List.set_cons_zero, List.set_cons_succ]
        refine takeP (i := 9) (v := ?_) rfl (by kernel_rfl) (fun _ _ _ h => h) (by rfl) ?_ (by assumption) ?_
        case refine_2 => (intro w'; go_simp; first | done | with_reducible rfl)
        try simp only [Act.put, List.setIfInBounds_toArray, List.set_cons_zero, List.set_cons_succ]
        refine takeP (i := 10) (v := ?_) rfl (by kernel_rfl) (fun _ _ _ h => h) (by rfl) ?_ (by assumption) ?_
        case refine_2 => (intro w'; go_simp; first | done | with_reducible rfl)
        try simp only [Act.put, List.setIfInBounds_toArray, List.set_cons_zero, List.set_cons_succ]
        refine takeH (i := 11) [12] (v := ?_) rfl (by kernel_rfl) (fun _ _ _ h => h) (by rfl) ?_ (by assumption) ?_
        case refine_2 => (intro w' hSw; (try dsimp only at hSw); go_simp; first | done | with_reducible rfl)
        try simp only [Act.put, List.setIfInBounds_toArray, List.set_cons_zero, List.set_cons_succ]
        refine takeP (i := 12) (v := ?_) rfl (by kernel_rfl) (fun _ _ _ h => h) (by rfl) ?_ (by assumption) ?_
        case refine_2 => (intro w'; go_simp; first | done | with_reducible rfl)
        try simp only [Act.put, List.setIfInBounds_toArray, List.set_cons_zero, List.set_cons_succ]
        refine takeP (i := 13) (v := ?_) rfl (by kernel_rfl) (fun _ _ _ h => h) (by rfl) ?_ (by assumption) ?_
        case refine_2 => (intro w'; go_simp; first | done | with_reducible rfl)
        try simp only [Act.put, List.setIfInBounds_toArray, List.set_cons_zero, List.set_cons_succ]
        refine readyG (rs := [14]) (by kernel_rfl) (by simp) ?_
        refine AllG.last rfl (by kernel_rfl) (fun K hK => ?_) AllG.nil
        go_simp
        refine hK.out _ _ ?_
        clear hK K
        try simp only [Act.put, List.setIfInBounds_toArray, List.set_cons_zero, List.set_cons_succ]
        refine doneG (by kernel_rfl) ?_ _
        refine NoPanic.normal ?_
        have hS9 := HS9.out
        rw [iv_set, Hset.out, Hst2.out] at hS9
        go_wp2_with fail
        go_roundw
        case rel => exact ⟨k + 1, by omega, by go_num, by rw [Q1.out]; exact hS9⟩
        case measure => simp [intOf]; omega
      · have hsq : Sqr n (ngP n H line true k) := sqF_sqr _ _
        have hsl := hsq.len
        have hsa := hsq.row line hline
        have hlS : uo.length = (ngP n H line true k).length := by rw [Hl.out, hsl]
        have hR := rii2 hS hlS
        have hat := hS.at_row hlS (j := line) (by rw [hsl]; exact hline)
        have z0 := hR.cell line (by rw [hsl]; exact hline)
        have xo := hR.ixe (line : Int) line rfl (by rw [hsl]; exact hline)
        have xb := (hS.rdI (line + 1) hat).ixe (k : Int) k rfl (by rw [hsa]; exact hk)
        have u1 := hS.unfrozen (line + 1) hat (j := k) (by rw [iv_len, hsa]; exact hk)
        have co1 : wr.cell? (el (vat uo line) k) = some (.int .i64 (at2 (ngP n H line true k) line k)) := (hS.rdI (line + 1) hat).cell k (by rw [hsa]; exact hk)
        have q1 : wrap64 (-at2 (ngP n H line true k) line k) = -at2 (ngP n H line true k) line k := by
          have := (Hel.out true k line k hline hk).bd; unfold wrap64; omega
        have HS9 := Lib.hid (hS.drew.store (line + 1) hat (j := k) (by rw [iv_len, hsa]; exact hk) (.int .i64 (-at2 (ngP n H line true k) line k)))
        have Hst2 := Lib.hid (ngP_row (H := H) hline hlt)
        have Hset := Lib.hid (own2_set (v := o) (L2 := []) hlS (j := line) (by rw [hsl]; exact hline) ((xat (ngP n H line true k) line).set k (-at2 (ngP n H line true k) line k)))
        clear hR hat hlS hsl hsa hS hsq
        have Q1 := Lib.hid q1
        clear q1
        unfold putS at Hst2
        go_wp2_with fail
        refine regionG (fun w' => w'.cell? (el o line) = some (vat uo line) ∧ w'.cell? (el (vat uo line) k) = some (.int .i64 (at2 (ngP n H line true k) line k))) 14 (by kernel_rfl) ⟨cell_dr z0, cell_dr co1⟩ (fun hHeld => ?_)
        refine takeP (i := 0) (v := ?_) rfl (by kernel_rfl) (fun _ _ _ h => h) (by rfl) ?_ (by assumption) ?_
        case refine_2 => (intro w'; go_simp; first | done | with_reducible rfl)
        try simp only [Act.put, List.setIfInBounds_toArray, List.set_cons_zero, List.set_cons_succ]
        refine takeP (i := 1) (v := ?_) rfl (by kernel_rfl) (fun _ _ _ h => h) (by rfl) ?_ (by assumption) ?_
        case refine_2 => (intro w'; go_simp; first | done | with_reducible rfl)
        try simp only [Act.put, List.setIfInBounds_toArray, List.set_cons_zero, List.set_cons_succ]
        refine takeP (i := 2) (v := ?_) rfl (by kernel_rfl) (fun _ _ _ h => h) (by rfl) ?_ (by assumption) ?_
        case refine_2 => (intro w'; go_simp; first | done | with_reducible rfl)
        try simp only [Act.put, List.setIfInBounds_toArray, List.set_cons_zero, List.set_cons_succ]
        refine takeH (i := 3) [13] (v := ?_) rfl (by kernel_rfl) (fun _ _ _ h => h) (by rfl) ?_ (by assumption) ?_
        case refine_2 => (intro w' hSw; (try dsimp only at hSw); go_simp; first | done | with_reducible rfl)
        try simp only [Act.put, List.setIfInBounds_toArray, List.set_cons_zero, List.set_cons_succ]
        refine takeP (i := 4) (v := ?_) rfl (by kernel_rfl) (fun _ _ _ h => h) (by rfl) ?_ (by assumption) ?_
        case refine_2 => (intro w'; go_simp; first | done | with_reducible rfl)
        try simp only [Act.put, List.setIfInBounds_toArray, List.set_cons_zero, List.set_cons_succ]
        refine takeP (i := 5) (v := ?_) rfl (by kernel_rfl) (fun _ _ _ h => h) (by rfl) ?_ (by assumption) ?_
        case refine_2 => (intro w'; go_simp; first | done | with_reducible rfl)
        try simp only [Act.put, List.setIfInBounds_toArray, List.set_cons_zero, List.set_cons_succ]
        refine takeP (i := 6) (v := ?_) rfl (by kernel_rfl) (fun _ _ _ h => h) (by rfl) ?_ (by assumption) ?_
        case refine_2 => (intro w'; go_simp; first | done | with_reducible rfl)
        try simp only [Act.put, List.setIfInBounds_toArray, List.set_cons_zero, List.set_cons_succ]
        refine takeP (i := 7) (v := ?_) rfl (by kernel_rfl) (fun _ _ _ h => h) (by rfl) ?_ (by assumption) ?_
        case refine_2 => (intro w'; go_simp; first | done | with_reducible rfl)
        try simp only [Act.put, List.setIfInBounds_toArray, List.set_cons_zero, List.set_cons_succ]
        refine takeH (i := 8) [10, 11, 12] (v := ?_) rfl (by kernel_rfl) (fun _ _ _ h => h) (by rfl) ?_ (by assumption) ?_
        case refine_2 => (intro w' hSw; (try dsimp only at hSw); go_simp; first | done | with_reducible rfl)
        try simp only [Act.put, List.setIfInBounds_toArray, List.set_cons_zero, List.set_cons_succ]
        refine takeP (i := 9) (v := ?_) rfl (by kernel_rfl) (fun _ _ _ h => h) (by rfl) ?_ (by assumption) ?_
        case refine_2 => (intro w'; go_simp; first | done | with_reducible rfl)
        try simp only [Act.put, List.setIfInBounds_toArray, List.set_cons_zero, List.set_cons_succ]
        refine takeP (i := 10) (v := ?_) rfl (by kernel_rfl) (fun _ _ _ h => h) (by rfl) ?_ (by assumption) ?_
        case refine_2 => (intro w'; go_simp; first | done | with_reducible rfl)
        try simp only [Act.put, List.setIfInBounds_toArray, List.set_cons_zero, List.set_cons_succ]
        refine takeH (i := 11) [12] (v := ?_) rfl (by kernel_rfl) (fun _ _ _ h => h) (by rfl) ?_ (by assumption) ?_
        case refine_2 => (intro w' hSw; (try dsimp only at hSw); go_simp; first | done | with_reducible rfl)
        try simp only [Act.put, List.setIfInBounds_toArray, List.set_cons_zero, List.set_cons_succ]
        refine takeP (i := 12) (v := ?_) rfl (by kernel_rfl) (fun _ _ _ h => h) (by rfl) ?_ (by assumption) ?_
        case refine_2 => (intro w'; go_simp; first | done | with_reducible rfl)
        try simp only [Act.put, List.setIfInBounds_toArray, List.set_cons_zero, List.set_cons_succ]
        refine takeP (i := 13) (v := ?_) rfl (by kernel_rfl) (fun _ _ _ h => h) (by rfl) ?_ (by assumption) ?_
        case refine_2 => (intro w'; go_simp; first | done | with_reducible rfl)
        try simp only [Act.put, List.setIfInBounds_toArray, List.set_cons_zero, List.set_cons_succ]
        refine readyG (rs := [14]) (by kernel_rfl) (by simp) ?_
        refine AllG.last rfl (by kernel_rfl) (fun K hK => ?_) AllG.nil
        go_simp
        refine hK.out _ _ ?_
        clear hK K
        try simp only [Act.put, List.setIfInBounds_toArray, List.set_cons_zero, List.set_cons_succ]
        refine doneG (by kernel_rfl) ?_ _
        refine NoPanic.normal ?_
        have hS9 := HS9.out
        rw [iv_set, Hset.out, Hst2.out] at hS9
        go_wp2_with fail
        go_roundw
        case rel => exact ⟨k + 1, by omega, by go_num, by rw [Q1.out]; exact hS9⟩
        case measure => simp [intOf]; omega
    · obtain rfl : k = n := by omega
      rw [List.append_nil] at hS
      go_wp2_with fail
      go_ret
      exact ⟨o, uo, rfl, by rw [Hl.out]; exact (sqF_len _ _).symm, hS⟩
set_option maxHeartbeats 4000000 in
set_option maxRecDepth 100000 in
theorem l15Dot_c (va vb : Value) (xs ys : List Int) (n : Nat) (w : World) (ha : RdI w va xs) (hb : RdI w vb ys) (hx : xs.length = n) (hy : ys.length = n) (n2 : n ≤ 32) (px : ∀ k, k < n → Pm (nth xs k)) (py : ∀ k, k < n → Pm (nth ys k)) :
    Calls Tryz.prog 47 #[va, vb] w (GivesI w (sN n fun k => nth xs k * nth ys k)) := by
  have hln := ha.len
  rw [hx] at hln
  have hxa := ha.ixe
  rw [hx] at hxa
  have hxb := hb.ixe
  rw [hy] at hxb
  have Hb := Lib.hid (fun k (hk : k ≤ n) => sN_bd (n := k) (f := fun k => nth xs k * nth ys k) (fun j hj => ((px j (by omega)).mul (py j (by omega))).bd))
  have Hp := Lib.hid (fun k hk => ((px k hk).mul (py k hk)).bd)
  have hS0 := St.refl w
  have Hx := Lib.hid hx
  have Hy := Lib.hid hy
  clear px py hx hy
  go_enter Tryz.func47, Tryz.ntmps47
  go_wp2_with fail
  go_loopw [5, 6] (fun s i wr => ∃ (k : Nat), k ≤ n ∧ i = .int .i64 k ∧ s = .int .i64 (sN k fun k => nth xs k * nth ys k) ∧ St w.heap.size w wr []) (fun _ i _ => n - (intOf i).toNat)
  case atStart => exact ⟨0, by omega, rfl, rfl, hS0⟩
  case round =>
    clear hS0
    obtain ⟨k, hk, rfl, rfl, hS⟩ := hrel
    by_cases hlt : k < n
    · have q1 := fun s : SS w.heap.size w [] => (s.st.oldI ha).cell k (by rw [Hx.out]; exact hlt)
      have q2 := fun s : SS w.heap.size w [] => (s.st.oldI hb).cell k (by rw [Hy.out]; exact hlt)
      have x1 := hxa (k : Int) k rfl hlt
      have x2 := hxb (k : Int) k rfl hlt
      have b1 := Hb.out k hk
      have b2 := Hp.out k hlt
      have hsn := Lib.hid (show sN (k + 1) (fun k => nth xs k * nth ys k) = sN k (fun k => nth xs k * nth ys k) + nth xs k * nth ys k from rfl)
      generalize sN k (fun k => nth xs k * nth ys k) = s at *
      go_wp2_with fail
      have hne : Nonempty (SS _ _ _) := ⟨⟨_, hS⟩⟩
      refine wp_region_st (by kernel_rfl) (by kernel_rfl) hS ?_
      repeat (go_big_quiet_step (fail))
      refine wpQuiet_nil ?_
      rintro _ ⟨s2, rfl⟩
      have hS2 := s2.st
      generalize s2.w = w2 at hS2 ⊢
      go_wp2_with fail
      go_roundw
      case rel => exact ⟨k + 1, by omega, by go_num, by rw [hsn.out], hS2⟩
      case measure => simp [intOf]; omega
    · obtain rfl : k = n := by omega
      go_wp2_with fail
      go_ret
      exact ⟨rfl, hS⟩
set_option maxHeartbeats 8000000 in
set_option maxRecDepth 100000 in
theorem l15Ok_c (v : Value) (us : List Value) (H : List (List Int)) (n : Nat) (w : World) (hv : RII w v us H) (hH : Had n H) :
    Calls Tryz.prog 29 #[v] w (GivesB w true) := by
  have hln := hv.len
  rw [hH.sqr.len] at hln
  have hix := hv.ixe
  rw [hH.sqr.len] at hix
  have n1 := hH.pos
  have n2 := hH.le
  have Hh := Lib.hid hH
  have hS0 := St.refl w
  clear hH
  go_enter Tryz.func29, Tryz.ntmps29
  go_wp2_with fail
  go_loopw [4, 5] (fun i _ wr => ∃ (k : Nat), k ≤ n ∧ i = .int .i64 k ∧ St w.heap.size w wr []) (fun i _ _ => n - (intOf i).toNat)
  case atStart => exact ⟨0, by omega, rfl, hS0⟩
  case round =>
    clear hS0
    obtain ⟨k, hk, rfl, hS⟩ := hrel
    by_cases hlt : k < n
    · have hrow := hv.row k (by rw [Hh.out.sqr.len]; exact hlt)
      have hrl := Hh.out.sqr.row k hlt
      have c1 := (hS.oldII hv).cell k (by rw [Hh.out.sqr.len]; exact hlt)
      have x1 := hix (k : Int) k rfl hlt
      have hlr := hrow.len
      rw [hrl] at hlr
      have hxr := hrow.ixe
      rw [hrl] at hxr
      have Hrl := Lib.hid hrl
      clear hrl
      go_wp2_with fail
      go_loopw [5] (fun j wr => ∃ (y : Nat), y ≤ n ∧ j = .int .i64 y ∧ St w.heap.size w wr []) (fun j _ => n - (intOf j).toNat)
      case atStart => exact ⟨0, by omega, rfl, hS⟩
      case round =>
        clear hS c1
        obtain ⟨y, hy, rfl, hS⟩ := hrel
        by_cases hly : y < n
        · have c1 := (hS.oldII hv).cell k (by rw [Hh.out.sqr.len]; exact hlt)
          have c2 : wr.cell? (el (vat us k) y) = some (.int .i64 (at2 H k y)) := (hS.oldI hrow).cell y (by rw [Hrl.out]; exact hly)
          have x2 := hxr (y : Int) y rfl hly
          rcases Hh.out.el k y hlt hly with hp | hp
          · rw [hp] at c2
            go_wp2_with fail
            go_roundw
            case rel => exact ⟨y + 1, by omega, by go_num, hS⟩
            case measure => simp [intOf]; omega
          · rw [hp] at c2
            go_wp2_with fail
            go_roundw
            case rel => exact ⟨y + 1, by omega, by go_num, hS⟩
            case measure => simp [intOf]; omega
        · go_wp2_with fail
          go_roundw
          case rel => exact ⟨k + 1, by omega, by go_num, hS⟩
          case measure => simp [intOf]; omega
    · go_wp2_with fail
      go_loopw [6, 7] (fun i _ wr => ∃ (k : Nat), k ≤ n ∧ i = .int .i64 k ∧ St w.heap.size w wr []) (fun i _ _ => n - (intOf i).toNat)
      case atStart => exact ⟨0, by omega, rfl, hS⟩
      case round =>
        clear hS
        obtain ⟨k, hk, rfl, hS⟩ := hrel
        by_cases hlt : k < n
        · go_wp2_with fail
          go_loopw [7] (fun j wr => ∃ (y : Nat), y ≤ k ∧ j = .int .i64 y ∧ St w.heap.size w wr []) (fun j _ => k - (intOf j).toNat)
          case atStart => exact ⟨0, by omega, rfl, hS⟩
          case round =>
            clear hS
            obtain ⟨y, hy, rfl, hS⟩ := hrel
            by_cases hly : y < k
            · have q1 := fun s : SS w.heap.size w [] => (s.st.oldII hv).cell k (by rw [Hh.out.sqr.len]; exact hlt)
              have q2 := fun s : SS w.heap.size w [] => (s.st.oldII hv).cell y (by rw [Hh.out.sqr.len]; omega)
              have x1 := hix (k : Int) k rfl hlt
              have x2 := hix (y : Int) y rfl (by omega)
              have KD := fun s : SS w.heap.size w [] => Lib.hid (l15Dot_c (vat us k) (vat us y) (xat H k) (xat H y) n s.w (s.st.oldI (hv.row k (by rw [Hh.out.sqr.len]; exact hlt))) (s.st.oldI (hv.row y (by rw [Hh.out.sqr.len]; omega))) (Hh.out.sqr.row k hlt) (Hh.out.sqr.row y (by omega)) n2 (fun j hj => Hh.out.el k j hlt hj) (fun j hj => Hh.out.el y j (by omega) hj))
              have h0 : sN n (fun j => nth (xat H k) j * nth (xat H y) j) = 0 := Hh.out.dot k y hlt (by omega) (by omega)
              rw [h0] at KD
              clear h0
              go_wp2_with fail
              have hne : Nonempty (SS _ _ _) := ⟨⟨_, hS⟩⟩
              refine wp_region_st (by kernel_rfl) (by kernel_rfl) hS ?_
              repeat (go_big_quiet_step ((go_at_call 47; exact st_quiet (KD _).out)))
              refine wpQuiet_nil ?_
              rintro _ ⟨s2, rfl⟩
              have hS2 := s2.st
              generalize s2.w = w2 at hS2 ⊢
              go_wp2_with fail
              go_roundw
              case rel => exact ⟨y + 1, by omega, by go_num, hS2⟩
              case measure => simp [intOf]; omega
            · go_wp2_with fail
              go_roundw
              case rel => exact ⟨k + 1, by omega, by go_num, hS⟩
              case measure => simp [intOf]; omega
        · go_wp2_with fail
          go_ret
          exact ⟨rfl, hS⟩
/-- a matrix and no fault -/
def IIOk (w : World) (X : List (List Int)) (e : Ending) (w' : World) : Prop := ∃ v us, e = .returned (.tuple #[v, .int .i64 0]) ∧ us.length = X.length ∧ St w.heap.size w w' (own2 v us X)
/-- some Hadamard matrix, and the source goes on -/
def HadR (w0 : World) (cv : Value) (g K : Nat) (L : List Ent) (v : Value) (w' : World) : Prop := ∃ n us H, Hid (Had n H ∧ n ≤ 20 ∧ us.length = n) ∧ Src w0 w' cv g K (own2 v us H ++ L)
def HadS (w0 : World) (cv : Value) (g K : Nat) (L : List Ent) (e : Ending) (w' : World) : Prop := ∃ v n us H, e = .returned v ∧ Had n H ∧ n ≤ 20 ∧ us.length = n ∧ Src w0 w' cv g K (own2 v us H ++ L)
theorem mk_pay {q : Nat} (h : q = 3 ∨ q = 7 ∨ q = 11 ∨ q = 19) : MK q := by
  have : ∀ q : Nat, q = 3 ∨ q = 7 ∨ q = 11 ∨ q = 19 → mkOk (q : Int) = true := by
    intro q h
    rcases h with rfl | rfl | rfl | rfl <;> decide +kernel
  obtain ⟨m, e, _, _, hm⟩ := mkOk_t (this q h)
  have : q = m := by omega
  rw [this]; exact hm
set_option maxHeartbeats 8000000 in
set_option maxRecDepth 100000 in
theorem l15Draw_c (w0 w : World) (cv : Value) (bs : List UInt8) (g K : Nat) (L : List Ent) (hb : RdB w0 cv bs) (h : Src w0 w cv g K L) (hK : K < 1000000000) :
    Calls Tryz.prog 19 #[.pointer (some ⟨g, 0, none⟩)] w (HadS w0 cv g (K + 200) L) := by
  go_enter Tryz.func19, Tryz.ntmps19
  go_wp2_with fail
  refine (pick_c w0 w cv bs g _ _ 5 hb h (by omega)).mono ?_
  rintro e w1 ⟨x, x0, x1, rfl, h1⟩
  obtain ⟨k, rfl⟩ := Int.eq_ofNat_of_zero_le x0
  have hk : k ≤ 4 := by omega
  clear h x0 x1
  go_wp2_with fail
  refine (l15Sylvester_c k w1 (by omega)).mono ?_
  rintro e w2 ⟨o, uo, rfl, hl, h2⟩
  have h3 : Src w0 w2 cv g (K + 2) (own2 o uo (sylL k) ++ L) := (h1.call h2).perm List.perm_append_comm
  have hH := sylL_had (k := k) (by omega)
  have hn : 2 ^ k ≤ 20 := by
    have : 2 ^ k ≤ 2 ^ 4 := Nat.pow_le_pow_right (by omega) hk
    omega
  have HI := Lib.hid (And.intro hH (And.intro hn (show uo.length = 2 ^ k by rw [hl, hH.sqr.len])))
  clear hH hn hl h1 h2
  generalize 2 ^ k = n at *
  generalize sylL k = H at *
  go_wp2_with fail
  refine (one_c w0 w2 cv bs g _ _ 2 hb h3 (by omega)).mono ?_
  rintro e w3 ⟨b, rfl, h4⟩
  clear h3
  go_upto_if 13 with fail
  go_cut [3] from 9 (fun s3 w' => HadR w0 cv g (K + 10) L s3 w')
  case first =>
    cases b
    · go_wp2_with fail
      go_meet
      case rel => exact ⟨n, uo, H, HI.out, h4.mono (by omega)⟩
    · have h5 : Src w0 w3 cv g (K + 2 + 2) L := h4.sub (List.sublist_append_right _ _)
      clear h4 HI
      go_wp2_with fail
      refine (among_lit [3, 7, 11, 19] w0 _ cv bs g _ _ hb h5 (by simp) (by omega)).mono ?_
      rintro e w4 ⟨z, hz, rfl, h6⟩
      have hz2 : ∃ q : Nat, z = q ∧ (q = 3 ∨ q = 7 ∨ q = 11 ∨ q = 19) := by
        simp only [List.mem_cons, List.not_mem_nil, or_false] at hz
        rcases hz with rfl | rfl | rfl | rfl
        · exact ⟨3, rfl, by simp⟩
        · exact ⟨7, rfl, by simp⟩
        · exact ⟨11, rfl, by simp⟩
        · exact ⟨19, rfl, by simp⟩
      obtain ⟨q, rfl, hq⟩ := hz2
      have hHq := Lib.hid (payL_had hq)
      have hM := Lib.hid (mk_pay hq)
      have q2 : 2 ≤ q := by omega
      have q31 : q ≤ 19 := by omega
      clear h5 hz hq
      go_wp2_with fail
      refine (l15Paley_c q w4 q2 (by omega) hM.out).mono ?_
      rintro e w5 ⟨o5, u5, rfl, hl5, h7⟩
      have h8 := (h6.call h7).perm List.perm_append_comm
      have HI := Lib.hid (And.intro hHq.out (And.intro (show q + 1 ≤ 20 by omega) (show u5.length = q + 1 by rw [hl5, hHq.out.sqr.len])))
      clear hl5 h6 h7
      go_wp2_with fail
      go_meet
      case rel => exact ⟨_, u5, _, HI.out, h8.mono (by omega)⟩
  case rest =>
    obtain ⟨n, us, H, HI, h5⟩ := hcut
    clear h4
    go_wp2_with fail
    refine (pick_c w0 _ cv bs g _ _ 5 hb h5 (by omega)).mono ?_
    rintro e w5 ⟨x, x0, x1, rfl, h6⟩
    obtain ⟨m, rfl⟩ := Int.eq_ofNat_of_zero_le x0
    have hm : m ≤ 4 := by omega
    clear h5 x0 x1
    go_wp2_with fail
    go_loopw [3, 4, 5] (fun o i _ wr => ∃ (j : Nat), j ≤ 4 ∧ i = .int .i64 j ∧ HadR w0 cv g (K + 40 - 5 * j) L o wr) (fun _ i _ _ => (intOf i).toNat)
    case atStart => exact ⟨m, by omega, rfl, n, us, H, HI, h6.mono (by omega)⟩
    case round =>
      clear h6 HI
      obtain ⟨j, hj, rfl, n, us, H, HI, hS⟩ := hrel
      by_cases hlt : 0 < j
      · have hr := hS.riiS (List.sublist_append_left _ _) (by rw [HI.out.1.sqr.len]; exact HI.out.2.2)
        have hln := hr.len
        rw [HI.out.1.sqr.len] at hln
        have n1 := HI.out.1.pos
        have n2 := HI.out.2.1
        clear hr
        go_wp2_with fail
        refine (pick_c w0 _ cv bs g _ _ n hb hS (by omega)).mono ?_
        rintro e w6 ⟨x, x0, x1, rfl, h7⟩
        obtain ⟨line, rfl⟩ := Int.eq_ofNat_of_zero_le x0
        have hline : line < n := by omega
        clear hS x0 x1
        go_wp2_with fail
        refine (one_c w0 _ cv bs g _ _ 2 hb h7 (by omega)).mono ?_
        rintro e w7 ⟨b, rfl, h8⟩
        have hr := h8.riiS (List.sublist_append_left _ _) (by rw [HI.out.1.sqr.len]; exact HI.out.2.2)
        clear h7
        go_wp2_with fail
        refine (l15Negate_c _ us H n line b w7 hr HI.out.1 hline).mono ?_
        rintro e w8 ⟨o8, u8, rfl, hl8, h9⟩
        have h10 := (h8.call h9).perm List.perm_append_comm
        have h11 := h10.sub ((List.sublist_append_right (own2 u3 us H) L).append_left (own2 o8 u8 (ngL n H line b)))
        have HJ := Lib.hid (And.intro ((ngL_sg (n := n) (H := H) line b).had HI.out.1) (And.intro n2 (show u8.length = n by rw [hl8]; exact sqF_len _ _)))
        clear hl8 h8 h9 h10 hr
        go_wp2_with fail
        go_roundw
        case rel => exact ⟨j - 1, by omega, by go_num, n, u8, _, HJ.out, h11.mono (by omega)⟩
        case measure => simp [intOf]; omega
      · go_wp2_with fail
        refine (one_c w0 _ cv bs g _ _ 2 hb hS (by omega)).mono ?_
        rintro e w6 ⟨b, rfl, h7⟩
        clear hS
        cases b
        · go_wp2_with fail
          go_ret
          exact ⟨_, n, us, H, rfl, HI.out.1, HI.out.2.1, HI.out.2.2, h7.mono (by omega)⟩
        · have hlH : us.length = H.length := by rw [HI.out.1.sqr.len]; exact HI.out.2.2
          have hr := h7.riiS (List.sublist_append_left _ _) hlH
          have hln := hr.len
          have hix := hr.ixe
          rw [HI.out.1.sqr.len] at hln hix
          have n1 := HI.out.1.pos
          have n2 := HI.out.2.1
          have HlH := Lib.hid hlH
          clear hr hlH
          go_wp2_with fail
          refine (l04DrawPerm_c w0 _ cv bs g _ _ n hb h7 (by omega) (by omega)).mono ?_
          rintro e w7 ⟨vp, ps, rfl, hpl, hpp, h8⟩
          have HP := Lib.hid (And.intro hpl hpp)
          have hxp := (h8.rdI 0 rfl).ixe
          rw [hpl] at hxp
          have h9 := h8.empII
          clear h7 h8 hpl hpp
          obtain ⟨K', hK'⟩ : ∃ K', K' = K + 40 - 5 * j + 2 + 2 * n := ⟨_, rfl⟩
          rw [← hK'] at h9
          have HK := Lib.hid (show K' ≤ K + 200 by omega)
          clear hK'
          go_wp2_with fail
          go_loopw [7, 8] (fun a i wr => ∃ (k : Nat) (ws : List Value) (R : List (List Int)), k ≤ n ∧ i = .int .i64 k ∧ Hid (R.length = k ∧ ws.length = k ∧ ∀ x, x < k → xat R x = xat H (pf ps x)) ∧ Src w0 wr cv g K' (own2 a ws R ++ (row 2 vp (iv ps) :: (own2 u3 us H ++ L)))) (fun _ i _ => n - (intOf i).toNat)
          case atStart => exact ⟨0, [], [], by omega, rfl, ⟨rfl, rfl, fun x hx => absurd hx (by omega)⟩, h9⟩
          case round =>
            clear h9
            obtain ⟨k, ws, R, hk, rfl, hI, hS⟩ := hrel
            by_cases hlt : k < n
            · have hrp : RdI wr vp ps := hS.rdI ((own2 u7 ws R).length + 0) (at_app rfl)
              have cp := hrp.cell k (by rw [HP.out.1]; exact hlt)
              rw [nth_pf HP.out.2 (by rw [HP.out.1]; exact hlt)] at cp
              have hpn : pf ps k < n := by have := HP.out.2.pf_lt (j := k) (by rw [HP.out.1]; exact hlt); rwa [HP.out.1] at this
              have x1 := hxp (k : Int) k rfl hlt
              obtain ⟨q, hq⟩ : ∃ q, q = pf ps k := ⟨_, rfl⟩
              rw [← hq] at cp hpn
              have x2 := hix (q : Int) q rfl hpn
              have hrH := hS.riiS (v := u3) (us := us) (A := H) (((List.sublist_append_left _ _).cons _).trans (List.sublist_append_right _ _)) HlH.out
              have cH := hrH.cell q (by rw [HI.out.1.sqr.len]; exact hpn)
              have hrow := Lib.hid (hrH.row q (by rw [HI.out.1.sqr.len]; exact hpn))
              have hrl := Lib.hid (show (xat H q).length ≤ 1048576 by rw [HI.out.1.sqr.row q hpn]; omega)
              have Hq := Lib.hid hq
              clear hrp hrH hq
              go_wp2_with fail
              refine (l00Own_c _ _ wr hrow.out hrl.out).mono ?_
              rintro e w8 ⟨v8, rfl, h10⟩
              obtain ⟨pp, ss, p0, p1, hS2⟩ := hS.call h10
              have hPS := Lib.hid (And.intro p0 p1)
              obtain ⟨ra, rc, hre⟩ := (h10.rdI 0 rfl).shp'
              subst hre
              have hwl : ws.length < 4294967296 := by rw [hI.out.2.1]; omega
              clear hS h10 p0 p1
              go_wp2_with (at_builtin; refine appII hS2 1 rfl hwl rfl _ _ rfl rfl _ rfl rfl ?_; intro v5 w5 hS5)
              have hS6 : St w0.heap.size w0 w5 (box 65 g [cv, .int .i64 pp, .int .u64 ss] :: (own2 v5 (ws ++ [.slice ra (xat H q).length rc]) (R ++ [xat H q]) ++ (row 2 vp (iv ps) :: (own2 u3 us H ++ L)))) := by
                rw [own2, rowsI_app (by rw [hI.out.1, hI.out.2.1])]
                simp only [own2, List.cons_append, List.set_cons_succ, List.set_cons_zero] at hS5
                exact hS5.perm (by (try simp only [own2, List.cons_append, List.nil_append, List.append_nil]); classical exact List.perm_iff_count.2 (fun a => by simp only [List.cons_append, List.nil_append, List.append_nil, List.count_append, List.count_cons, List.count_nil] <;> omega))
              clear hS5 hS2
              go_roundw
              case rel =>
                refine ⟨k + 1, _, _, by omega, by go_num, ⟨by simp [hI.out.1], by simp [hI.out.2.1], fun x hx => ?_⟩, pp, ss, hPS.out.1, hPS.out.2, hS6⟩
                by_cases hxk : x < k
                · rw [← hI.out.2.2 x hxk, xat, List.getD, List.getElem?_append_left (by rw [hI.out.1]; exact hxk)]; rfl
                · obtain rfl : x = k := by omega
                  rw [← Hq.out, xat, List.getD, List.getElem?_append_right (by rw [hI.out.1]; omega), hI.out.1, Nat.sub_self]; rfl
              case measure => simp [intOf]; omega
            · obtain rfl : k = n := by omega
              go_wp2_with fail
              go_ret
              exact ⟨_, k, ws, R, rfl, HI.out.1.rows HP.out.2 HP.out.1 hI.out.1 hI.out.2.2, HI.out.2.1, hI.out.2.1, (hS.sub ((List.Sublist.refl _).append ((List.sublist_append_right _ _).cons _))).mono HK.out⟩
/-- some Hadamard matrix, in memory of its own -/
def MakesHad (w : World) (e : Ending) (w' : World) : Prop := ∃ v n us H, e = .returned v ∧ Had n H ∧ n ≤ 20 ∧ us.length = n ∧ St w.heap.size w w' (own2 v us H)
set_option maxHeartbeats 2000000 in
set_option maxRecDepth 100000 in
theorem V8Hadamard_c (w : World) (cv : Value) (bs : List UInt8) (hb : RdB w cv bs) : Calls Tryz.prog 5 #[cv] w (MakesHad w) := by
  go_enter Tryz.func5, Tryz.ntmps5
  go_wp2_with fail
  refine (l00From_c w cv bs hb).mono ?_
  rintro e w1 ⟨rfl, h1⟩
  go_wp2_with fail
  refine (l15Draw_c w w1 cv bs _ _ _ hb h1 (by omega)).mono ?_
  rintro e w2 ⟨v, n, us, H, rfl, hH, hn, hl, h2⟩
  have hS := h2.st
  rw [List.append_nil] at hS
  clear h1 h2
  go_wp2_with fail
  go_ret
  exact ⟨v, n, us, H, rfl, hH, hn, hl, hS⟩

end Go.Proofs.YtnodcfhdfpeokaaGreat
end

section
/- Walks: Hadamard matrices that the program checks, and their profiles. -/
namespace Go.Proofs.YtnodcfhdfpeokaaGreat
set_option linter.unusedSimpArgs false
set_option linter.unusedVariables false
open Go.RowKit
attribute [local go_sem ↓] Go.wp_at_zero Go.wp_at_succ


theorem rslRII {w : World} {v : Value} {us : List Value} {A : List (List Int)} (h : RII w v us A) {k : Nat} (hk : k ≤ A.length) : RII w (rsl v 0 k) (us.take k) (A.take k) := by
  have h1 := rsl_Rd h.1 (lo := 0) (hi := k) (by omega) (by rw [h.2.1]; exact hk)
  rw [List.drop_zero] at h1
  refine ⟨h1, by rw [List.length_take, List.length_take, h.2.1], fun j hj => ?_⟩
  rw [List.length_take] at hj
  have e1 : vat (us.take k) j = vat us j := by rw [vat, vat, List.getD, List.getD, List.getElem?_take, if_pos (by omega)]
  have e2 : xat (A.take k) j = xat A j := by rw [xat, xat, List.getD, List.getD, List.getElem?_take, if_pos (by omega)]
  rw [e1, e2]
  exact h.row j (by omega)
theorem vat_take {us : List Value} {k j : Nat} (h : j < k) : vat (us.take k) j = vat us j := by rw [vat, vat, List.getD, List.getD, List.getElem?_take, if_pos h]
theorem vh1_c (x : Int) (w : World) (h : Pm x) : Calls Tryz.prog 28 #[.int .i64 x] w (GivesB w false) := by
  have hS := St.refl w
  rcases h with rfl | rfl
  · go_enter Tryz.func28, Tryz.ntmps28
    go_wp2_with fail
    go_ret
    exact ⟨rfl, hS⟩
  · go_enter Tryz.func28, Tryz.ntmps28
    go_wp2_with fail
    go_ret
    exact ⟨rfl, hS⟩
set_option maxHeartbeats 8000000 in
set_option maxRecDepth 100000 in
theorem ValidHadamard_c (v : Value) (us : List Value) (H : List (List Int)) (n : Nat) (w : World) (hv : RII w v us H) (hH : Had n H) :
    Calls Tryz.prog 10 #[v] w (GivesB w true) := by
  have hln := hv.len
  rw [hH.sqr.len] at hln
  have hix := hv.ixe
  rw [hH.sqr.len] at hix
  have n1 := hH.pos
  have n2 := hH.le
  have Hh := Lib.hid hH
  have hcf := callFunc_go Tryz.func28 (by kernel_rfl) (by kernel_rfl)
  have hS0 := St.refl w
  have HZ := fun W h => Lib.hid (szII_c v us H W h)
  rw [hH.sqr.len] at HZ
  have hC := fun k (hk : k < n) W (h : RdI W (vat us k) (xat H k)) => Lib.hid (ContainsFunc_c 28 #[] (fun _ => false) (vat us k) (xat H k) W h hcf (fun x W' _ hx => vh1_c x W' (by
    obtain ⟨j, hj, rfl⟩ := List.getElem_of_mem hx
    rw [← nth_eq hj]
    exact hH.el k j hk (by rw [← hH.sqr.row k hk]; exact hj))))
  have hany : ∀ k, anyP (fun _ => false) (xat H k) = false := fun k => by simp [anyP]
  simp only [hany] at hC
  have hin : inB (n : Int) 1 32 = true := by simp [inB]; omega
  clear hH hany
  go_enter Tryz.func10, Tryz.ntmps10
  go_wp2_with fail
  refine (HZ _ hv).out.mono ?_
  rintro e w1 ⟨rfl, rfl⟩
  go_wp2_with fail
  go_loopw [14] (fun i wr => ∃ (k : Nat), k ≤ n ∧ i = .int .i64 k ∧ St w.heap.size w wr []) (fun i _ => n - (intOf i).toNat)
  case atStart => exact ⟨0, by omega, rfl, hS0⟩
  case round =>
    clear hS0
    obtain ⟨k, hk, rfl, hS⟩ := hrel
    by_cases hlt : k < n
    · have c1 := (hS.oldII hv).cell k (by rw [Hh.out.sqr.len]; exact hlt)
      have x1 := hix (k : Int) k rfl hlt
      have hrow := hv.row k (by rw [Hh.out.sqr.len]; exact hlt)
      have hrl := Hh.out.sqr.row k hlt
      have HZ2 := fun W h => Lib.hid (size_c (vat us k) (xat H k) W h)
      rw [hrl] at HZ2
      have hlr := hrow.len
      rw [hrl] at hlr
      have hxr := hrow.ixe
      rw [hrl] at hxr
      have Hrl := Lib.hid hrl
      clear hrl
      have hrs := rslII_hi hv.1 k (by rw [hv.2.1, Hh.out.sqr.len]; omega)
      have hro := rslRII hv (k := k) (by rw [Hh.out.sqr.len]; omega)
      have htl : (H.take k).length = k := by rw [List.length_take, Hh.out.sqr.len]; omega
      have hlo := hro.len
      have hxo := hro.ixe
      rw [htl] at hlo hxo
      have Htl := Lib.hid htl
      clear htl
      go_wp2_with fail
      refine (HZ2 _ (hS.oldI hrow)).out.mono ?_
      rintro e w2 ⟨rfl, rfl⟩
      go_wp2_with fail
      refine (hC k hlt _ (hS.oldI hrow)).out.mono ?_
      rintro e w2 ⟨rfl, h2⟩
      have hS2 := hS.call0 h2
      clear h2
      go_wp2_with fail
      go_loopw [31] (fun j wr => ∃ (y : Nat), y ≤ k ∧ j = .int .i64 y ∧ St w.heap.size w wr []) (fun j _ => k - (intOf j).toNat)
      case atStart => exact ⟨0, by omega, rfl, hS2⟩
      case round =>
        clear hS hS2
        obtain ⟨y, hy, rfl, hS⟩ := hrel
        by_cases hly : y < k
        · have c3 := (hS.oldII hro).cell y (by rw [Htl.out]; exact hly)
          rw [vat_take hly] at c3
          have x3 := hxo (y : Int) y rfl hly
          have hrow2 := hv.row y (by rw [Hh.out.sqr.len]; omega)
          have hxr2 := hrow2.ixe
          rw [Hh.out.sqr.row y (by omega)] at hxr2
          go_wp2_with fail
          go_loopw [8, 37] (fun s i wr => ∃ (z : Nat), z ≤ n ∧ i = .int .i64 z ∧ s = .int .i64 (sN z fun t => at2 H k t * at2 H y t) ∧ St w.heap.size w wr []) (fun _ i _ => n - (intOf i).toNat)
          case atStart => exact ⟨0, by omega, rfl, rfl, hS⟩
          case round =>
            clear hS c3
            obtain ⟨z, hz, rfl, rfl, hS⟩ := hrel
            by_cases hlz : z < n
            · have q1 : ∀ s : SS w.heap.size w [], s.w.cell? (el (vat us k) z) = some (.int .i64 (at2 H k z)) := fun s => (s.st.oldI hrow).cell z (by rw [Hrl.out]; exact hlz)
              have q2 : ∀ s : SS w.heap.size w [], s.w.cell? (el (vat us y) z) = some (.int .i64 (at2 H y z)) := fun s => (s.st.oldI hrow2).cell z (by rw [Hh.out.sqr.row y (by omega)]; exact hlz)
              have x4 := hxr (z : Int) z rfl hlz
              have x5 := hxr2 (z : Int) z rfl hlz
              have b1 := sN_bd (n := z) (f := fun t => at2 H k t * at2 H y t) (fun j hj => ((Hh.out.el k j hlt (by omega)).mul (Hh.out.el y j (by omega) (by omega))).bd)
              have b2 := ((Hh.out.el k z hlt hlz).mul (Hh.out.el y z (by omega) hlz)).bd
              have hsn := Lib.hid (show sN (z + 1) (fun t => at2 H k t * at2 H y t) = sN z (fun t => at2 H k t * at2 H y t) + at2 H k z * at2 H y z from rfl)
              generalize sN z (fun t => at2 H k t * at2 H y t) = s at *
              go_wp2_with fail
              have hne : Nonempty (SS _ _ _) := ⟨⟨_, hS⟩⟩
              refine wp_region_st (by kernel_rfl) (by kernel_rfl) hS ?_
              repeat (go_big_quiet_step (fail))
              refine wpQuiet_nil ?_
              rintro _ ⟨s2, rfl⟩
              have hS2 := s2.st
              generalize s2.w = w2 at hS2 ⊢
              go_wp2_with fail
              go_roundw
              case rel => exact ⟨z + 1, by omega, by go_num, by rw [hsn.out], hS2⟩
              case measure => simp [intOf]; omega
            · obtain rfl : z = n := by omega
              have h0 : sN z (fun t => at2 H k t * at2 H y t) = 0 := Hh.out.dot k y hlt (by omega) (by omega)
              rw [h0]
              clear h0
              go_wp2_with fail
              go_roundw
              case rel => exact ⟨y + 1, by omega, by go_num, hS⟩
              case measure => simp [intOf]; omega
        · go_wp2_with fail
          go_roundw
          case rel => exact ⟨k + 1, by omega, by go_num, hS⟩
          case measure => simp [intOf]; omega
    · go_wp2_with fail
      refine (within_c _ _ _ _).mono ?_
      rw [hin]
      rintro e w2 ⟨rfl, rfl⟩
      go_wp2_with fail
      go_ret
      exact ⟨rfl, hS⟩
end Go.Proofs.YtnodcfhdfpeokaaGreat
end

section
/- Plain: lists in the order of lists, designs, their counts and parameters. -/
namespace Go.Proofs.YtnodcfhdfpeokaaGreat
set_option linter.unusedSimpArgs false
set_option linter.unusedVariables false

/-- lists compared place by place -/
def cmpI : List Int → List Int → Int
  | [], [] => 0
  | [], _ :: _ => -1
  | _ :: _, [] => 1
  | a :: r, b :: s => if a < b then -1 else if b < a then 1 else cmpI r s
theorem cmpI_self : ∀ a : List Int, cmpI a a = 0
  | [] => rfl
  | a :: r => by rw [cmpI, if_neg (by omega), if_neg (by omega)]; exact cmpI_self r
theorem cmpI_neg : ∀ a b : List Int, cmpI b a = -cmpI a b
  | [], [] => rfl
  | [], _ :: _ => rfl
  | _ :: _, [] => rfl
  | a :: r, b :: s => by
    have ih := cmpI_neg r s
    rw [cmpI, cmpI]
    by_cases h1 : a < b
    · rw [if_neg (show ¬ b < a by omega), if_pos h1, if_pos h1]; rfl
    · by_cases h2 : b < a
      · rw [if_pos h2, if_neg h1, if_pos h2]
      · rw [if_neg h2, if_neg h1, if_neg h1, if_neg h2]; exact ih
theorem cmpI_eq : ∀ {a b : List Int}, cmpI a b = 0 → a = b
  | [], [], _ => rfl
  | [], _ :: _, h => by simp [cmpI] at h
  | _ :: _, [], h => by simp [cmpI] at h
  | a :: r, b :: s, h => by
    rw [cmpI] at h
    by_cases h1 : a < b
    · rw [if_pos h1] at h; omega
    · rw [if_neg h1] at h
      by_cases h2 : b < a
      · rw [if_pos h2] at h; omega
      · rw [if_neg h2] at h
        rw [cmpI_eq h, show a = b by omega]
theorem cmpI_trans : ∀ {a b c : List Int}, cmpI a b ≤ 0 → cmpI b c ≤ 0 → cmpI a c ≤ 0
  | [], _, [], _, _ => by simp [cmpI]
  | [], _, _ :: _, _, _ => by simp [cmpI]
  | _ :: _, [], _, h, _ => by simp [cmpI] at h
  | _ :: _, _ :: _, [], _, h => by simp [cmpI] at h
  | a :: r, b :: s, c :: t, h1, h2 => by
    rw [cmpI] at h1 h2 ⊢
    by_cases e1 : a < b
    · by_cases e2 : b < c
      · rw [if_pos (by omega)]; omega
      · rw [if_neg e2] at h2
        by_cases e3 : c < b
        · rw [if_pos e3] at h2; omega
        · rw [if_pos (by omega)]; omega
    · rw [if_neg e1] at h1
      by_cases e4 : b < a
      · rw [if_pos e4] at h1; omega
      · rw [if_neg e4] at h1
        by_cases e2 : b < c
        · rw [if_pos (by omega)]; omega
        · rw [if_neg e2] at h2
          by_cases e3 : c < b
          · rw [if_pos e3] at h2; omega
          · rw [if_neg e3] at h2
            rw [if_neg (by omega), if_neg (by omega)]
            exact cmpI_trans h1 h2
def leL (a b : List Int) : Bool := decide (cmpI a b ≤ 0)
theorem leL_trans (a b c : List Int) (h1 : leL a b = true) (h2 : leL b c = true) : leL a c = true :=
  decide_eq_true (cmpI_trans (of_decide_eq_true h1) (of_decide_eq_true h2))
theorem leL_total (a b : List Int) : (leL a b || leL b a) = true := by
  unfold leL
  have := cmpI_neg a b
  by_cases h : cmpI a b ≤ 0
  · simp [h]
  · simp [show cmpI b a ≤ 0 by omega]
theorem leL_anti {a b : List Int} (h1 : leL a b = true) (h2 : leL b a = true) : a = b := by
  have a1 := of_decide_eq_true h1
  have a2 := of_decide_eq_true h2
  have := cmpI_neg a b
  exact cmpI_eq (by omega)
/-- a list put into its place -/
def insL (b : List Int) : List (List Int) → List (List Int)
  | [] => [b]
  | a :: r => if leL b a = true then b :: a :: r else a :: insL b r
theorem insL_perm (b : List Int) : ∀ A : List (List Int), (insL b A).Perm (b :: A)
  | [] => .refl _
  | a :: r => by
    rw [insL]
    split
    · exact .refl _
    · exact ((insL_perm b r).cons a).trans (List.Perm.swap b a r)
theorem insL_pw (b : List Int) : ∀ {A : List (List Int)}, (A.Pairwise fun a b => leL a b = true) → (insL b A).Pairwise fun a b => leL a b = true
  | [], _ => by simp [insL]
  | a :: r, h => by
    obtain ⟨h1, h2⟩ := List.pairwise_cons.1 h
    rw [insL]
    split
    · rename_i hb
      refine List.pairwise_cons.2 ⟨fun x hx => ?_, h⟩
      rcases List.mem_cons.1 hx with rfl | hx
      · exact hb
      · exact leL_trans _ _ _ hb (h1 x hx)
    · rename_i hb
      refine List.pairwise_cons.2 ⟨fun x hx => ?_, insL_pw b h2⟩
      rcases List.mem_cons.1 ((insL_perm b r).mem_iff.1 hx) with rfl | hx
      · have := leL_total x a
        rw [Bool.or_eq_true] at this
        rcases this with h | h
        · exact absurd h hb
        · exact h
      · exact h1 x hx
/-- a list of lists in its order -/
def srtL (A : List (List Int)) : List (List Int) := A.foldr insL []
theorem srtL_perm : ∀ A : List (List Int), (srtL A).Perm A
  | [] => .refl _
  | a :: r => (insL_perm a (srtL r)).trans ((srtL_perm r).cons a)
theorem srtL_pw : ∀ A : List (List Int), (srtL A).Pairwise fun a b => leL a b = true
  | [] => List.Pairwise.nil
  | a :: r => insL_pw a (srtL_pw r)
theorem srtL_len (A : List (List Int)) : (srtL A).length = A.length := (srtL_perm A).length_eq
theorem perm_pw_eq : ∀ {a b : List (List Int)}, a.Perm b → (a.Pairwise fun x y => leL x y = true) → (b.Pairwise fun x y => leL x y = true) → a = b
  | [], b, h, _, _ => by rw [List.nil_perm.1 h]
  | x :: a, b, h, h1, h2 => by
    obtain ⟨h1x, h1r⟩ := List.pairwise_cons.1 h1
    cases b with
    | nil => exact absurd h.length_eq (by simp)
    | cons y b =>
      obtain ⟨h2y, h2r⟩ := List.pairwise_cons.1 h2
      have hxy : x = y := by
        have hx : x ∈ y :: b := h.mem_iff.1 (List.mem_cons_self ..)
        have hy : y ∈ x :: a := h.mem_iff.2 (List.mem_cons_self ..)
        rcases List.mem_cons.1 hx with e | hx
        · exact e
        · rcases List.mem_cons.1 hy with e | hy
          · exact e.symm
          · exact leL_anti (h1x y hy) (h2y x hx)
      subst hxy
      rw [perm_pw_eq ((List.perm_cons x).1 h) h1r h2r]
theorem srtL_eq {a b : List (List Int)} (h : a.Perm b) (hs : a.Pairwise fun x y => leL x y = true) : a = srtL b :=
  perm_pw_eq (h.trans (srtL_perm b).symm) hs (srtL_pw b)
/-- in order, place by place -/
def srtB : List (List Int) → Bool
  | [] => true
  | [_] => true
  | a :: b :: r => leL a b && srtB (b :: r)
theorem srtB_pw : ∀ {A : List (List Int)}, srtB A = true ↔ A.Pairwise fun a b => leL a b = true
  | [] => by simp [srtB]
  | [_] => by simp [srtB]
  | a :: b :: r => by
    rw [srtB, Bool.and_eq_true, srtB_pw (A := b :: r)]
    constructor
    · rintro ⟨h1, h2⟩
      refine List.pairwise_cons.2 ⟨fun x hx => ?_, h2⟩
      rcases List.mem_cons.1 hx with rfl | hx
      · exact h1
      · exact leL_trans _ _ _ h1 ((List.pairwise_cons.1 h2).1 x hx)
    · intro h
      obtain ⟨h1, h2⟩ := List.pairwise_cons.1 h
      exact ⟨h1 b (List.mem_cons_self ..), h2⟩
theorem srtB_srtL (A : List (List Int)) : srtB (srtL A) = true := srtB_pw.2 (srtL_pw A)
theorem srtB_drop : ∀ {A : List (List Int)} {k : Nat}, k + 1 < A.length → srtB (A.drop k) = (leL (xat A k) (xat A (k + 1)) && srtB (A.drop (k + 1))) := by
  intro A k h
  rw [drop_xat (show k < A.length by omega), drop_xat h, srtB]

/-- a block: some points, increasing -/
def blkB (P : Int) (b : List Int) : Bool := decide (0 < b.length) && validSetB b P
/-- a design -/
def dOk (P : Int) (A : List (List Int)) : Bool := inB P 1 32 && A.all (blkB P) && decide (A.length ≤ 128) && srtB A
structure DOk (P : Int) (A : List (List Int)) : Prop where
  pos : 1 ≤ P
  le : P ≤ 32
  len : A.length ≤ 128
  srt : srtB A = true
  ne : ∀ b ∈ A, 0 < b.length
  inc : ∀ b ∈ A, incB (-1) P b = true
theorem blkB_t {P : Int} {b : List Int} (h : blkB P b = true) : 0 < b.length ∧ incB (-1) P b = true := by
  simp only [blkB, validSetB, Bool.and_eq_true, decide_eq_true_eq] at h
  exact ⟨h.1, h.2.1⟩
theorem dOk_t {P : Int} {A : List (List Int)} (h : dOk P A = true) : DOk P A := by
  simp only [dOk, Bool.and_eq_true, decide_eq_true_eq, List.all_eq_true] at h
  obtain ⟨⟨⟨h1, h2⟩, h3⟩, h4⟩ := h
  have h5 : 1 ≤ P ∧ P ≤ 32 := by simpa [inB] using h1
  exact ⟨h5.1, h5.2, h3, h4, fun b hb => (blkB_t (h2 b hb)).1, fun b hb => (blkB_t (h2 b hb)).2⟩
theorem DOk.ok {P : Int} {A : List (List Int)} (h : DOk P A) : dOk P A = true := by
  have h1 := h.pos
  have h2 := h.le
  simp only [dOk, Bool.and_eq_true, decide_eq_true_eq, List.all_eq_true]
  refine ⟨⟨⟨by simp [inB]; omega, fun b hb => ?_⟩, h.len⟩, h.srt⟩
  simp only [blkB, validSetB, Bool.and_eq_true, decide_eq_true_eq]
  exact ⟨h.ne b hb, h.inc b hb, by simp [inB]; omega⟩
/-- blocks put in order are a design -/
theorem DOk.mk' {P : Int} {A : List (List Int)} (h1 : 1 ≤ P) (h2 : P ≤ 32) (h3 : A.length ≤ 128) (h4 : ∀ b ∈ A, 0 < b.length ∧ incB (-1) P b = true) : DOk P (srtL A) :=
  ⟨h1, h2, by rw [srtL_len]; exact h3, srtB_srtL A, fun b hb => (h4 b ((srtL_perm A).mem_iff.1 hb)).1, fun b hb => (h4 b ((srtL_perm A).mem_iff.1 hb)).2⟩
/-- the number of blocks with a property -/
def cntD (p : List Int → Bool) (A : List (List Int)) : Int := (A.filter p).length
theorem cntD_perm {p : List Int → Bool} {A B : List (List Int)} (h : A.Perm B) : cntD p A = cntD p B := by unfold cntD; rw [(h.filter p).length_eq]
theorem cntD_snoc (p : List Int → Bool) (A : List (List Int)) (b : List Int) : cntD p (A ++ [b]) = cntD p A + if p b = true then 1 else 0 := by
  unfold cntD; rw [List.filter_append]; by_cases h : p b = true <;> simp [h]
theorem cntD_bd (p : List Int → Bool) (A : List (List Int)) : 0 ≤ cntD p A ∧ cntD p A ≤ A.length := by
  unfold cntD; have := List.length_filter_le p A; omega
/-- in how many blocks a point is -/
def repF (A : List (List Int)) (x : Nat) : Int := cntD (fun b => decide ((x : Int) ∈ b)) A
def repL (P : Nat) (A : List (List Int)) : List Int := (List.range P).map (repF A)
/-- in how many blocks two points are -/
def parF (A : List (List Int)) (x y : Nat) : Int := cntD (fun b => decide ((x : Int) ∈ b) && decide ((y : Int) ∈ b)) A
def parR (P : Nat) (A : List (List Int)) (x : Nat) : List Int := (List.range (P - (x + 1))).map fun t => parF A x (x + 1 + t)
def parL (P : Nat) (A : List (List Int)) : List Int := ((List.range P).map (parR P A)).flatten
/-- the parameters: whether there are any, and what they are -/
def prmB (P : Nat) (A : List (List Int)) : Bool :=
  decide (2 ≤ P) && decide (0 < A.length) && decide (2 ≤ (xat A 0).length) && (A.all fun b => b.length == (xat A 0).length) && ((parL P A).all fun c => c == nth (parL P A) 0)
def prmV (P : Nat) (A : List (List Int)) : List Int :=
  if prmB P A = true then [(P : Int), (A.length : Int), nth (repL P A) 0, ((xat A 0).length : Int), nth (parL P A) 0] else [0, 0, 0, 0, 0]
end Go.Proofs.YtnodcfhdfpeokaaGreat
end
