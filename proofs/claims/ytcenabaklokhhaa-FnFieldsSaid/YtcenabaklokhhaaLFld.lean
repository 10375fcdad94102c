/- The law FnFields, walked. -/
import Derived.Test.YtcenabaklokhhaaFd
import Derived.Test.YtcenabaklokhhaaFop
import Derived.Test.YtcenabaklokhhaaFlw
namespace Go.Proofs.Ytcenabaklokhhaa
set_option linter.unusedSimpArgs false
set_option linter.unusedVariables false
open Go.RowKit
attribute [local go_sem ↓] Go.wp_at_zero Go.wp_at_succ

set_option maxHeartbeats 8000000 in
set_option maxRecDepth 100000 in
theorem FnFields_law (w : World) (cv : Value) (bs : List UInt8) (hb : RdB w cv bs) :
    Calls Try.prog 4 #[cv] w (GivesB w true) := by
  have hlb := hb.len
  by_cases hlong : 1048576 < bs.length
  · go_enter Try.func4, Try.ntmps4
    go_wp2_with fail
    go_ret
    exact ⟨rfl, St.refl _⟩
  · go_enter Try.func4, Try.ntmps4
    go_wp2_with fail
    refine (V8Field_c w cv bs hb).mono ?_
    rintro e w1 ⟨p, D, v, fs, a, b, c, rfl, hf, ha, hb', hc, h1⟩
    obtain ⟨av, cv', rfl⟩ := (h1.rdI 0 rfl).shp'
    have rf := h1.rdI 0 rfl
    have hend := fun w' (L : List Ent) (h : St w1.heap.size w1 w' L) => Lib.hid (h1.out.call0 h.out)
    have hT0 := (St.refl w1).newboxF 25 #[.int .i64 p, .int .i64 D, .slice av fs.length cv']
    have HF := Lib.hid hf
    have FA := fun x y (hx : El p D x) (hy : El p D y) W hv => Lib.hid (FieldAdd_c p D (.slice av fs.length cv') fs x y W hv hf hx hy)
    have FM := fun x y (hx : El p D x) (hy : El p D y) W hv => Lib.hid (FieldMul_c p D (.slice av fs.length cv') fs x y W hv hf hx hy)
    have FSm := fun x y (hx : El p D x) (hy : El p D y) W hv => Lib.hid (FieldSub_c p D (.slice av fs.length cv') fs x y W hv hf hx hy)
    have L := fieldLaw hf ha hb' hc
    have eA := fsum_el (p := p) (D := D) hf.fa.pos a b 1
    have eY := fsum_el (p := p) (D := D) hf.fa.pos b c 1
    have eM := fmul_el hf.fa a b
    have eU := fmul_el hf.fa b c
    have eT := fmul_el hf.fa a c
    have KA := FA a b ha hb'
    have KA2 := FA b a hb' ha
    rw [L.ab] at KA2
    have KM := FM a b ha hb'
    have KM2 := FM b a hb' ha
    rw [L.mb] at KM2
    have KX := FA _ c eA hc
    have KY := FA b c hb' hc
    have KX2 := FA a _ ha eY
    rw [← L.aa] at KX2
    have KZ := FM _ c eM hc
    have KU := FM b c hb' hc
    have KZ2 := FM a _ ha eU
    rw [← L.ma] at KZ2
    have KV := FM a _ ha eY
    have KT := FM a c ha hc
    have KV2 := FA _ _ eM eT
    rw [← L.ds] at KV2
    have KS := FSm _ b eA hb'
    rw [L.sb] at KS
    have KSz := fun W hv => Lib.hid (FieldSize_c p D (.slice av fs.length cv') fs W hv hf)
    have KP := fun W hv => Lib.hid (FieldPower_c p D (.slice av fs.length cv') fs a (q1 p D + 1) W hv hf ha (by have := q1_cast hf; have := hf.q64; omega))
    rw [pw_q hf ha] at KP
    have KI := fun W hv => Lib.hid (FieldInverse_c p D (.slice av fs.length cv') fs a W hv hf ha)
    have KMk := fun W => Lib.hid (makeLaw hf W)
    have hqq : p ^ D = (q1 p D : Int) + 1 := by have := q1_cast hf; omega
    rw [show ((q1 p D + 1 : Nat) : Int) = (q1 p D : Int) + 1 by omega] at KP
    rw [hqq] at KSz KMk
    have hq64 : q1 p D + 1 ≤ 64 := by have := hf.q64; omega
    have hq1p := q1_pos hf
    have haz : ∀ x : Int, (x != x) = false := fun x => by simp
    clear FA FSm L eA eY eM eU eT h1 hqq hb' hc
    have KO := fun (h0 : a ≠ 0) W hv => Lib.hid (FieldOrder_c p D (.slice av fs.length cv') fs a W hv HF.out ha h0)
    have KPN := fun (h0 : a ≠ 0) W hv => Lib.hid (FieldPower_c p D (.slice av fs.length cv') fs a (ordF p D fs a) W hv HF.out ha (by have := (ord_ok HF.out ha h0).le; omega))
    have hO := fun (h0 : a ≠ 0) => Lib.hid (ord_ok HF.out ha h0)
    have hOd := fun (h0 : a ≠ 0) => Lib.hid ((ord_ok HF.out ha h0).dvd_q HF.out ha h0)
    have KMI := FM a (pw p D fs a (q1 p D - 1)) ha (pw_el HF.out.fa a _)
    have hmi := fun (h0 : a ≠ 0) => Lib.hid (pw_inv HF.out ha h0)
    clear FM
    generalize fsum p D (fsum p D a b 1) c 1 = X at *
    generalize fmul p D fs (fmul p D fs a b) c = Z at *
    generalize fmul p D fs a (fsum p D b c 1) = V at *
    generalize fmul p D fs a c = T at *
    generalize fmul p D fs b c = U at *
    generalize fmul p D fs a b = M at *
    generalize fsum p D b c 1 = Y at *
    generalize fsum p D a b 1 = A at *
    generalize q1 p D = Q at *
    unfold fv at *
    have b0 := hT0.bcell 0 rfl 0 rfl
    have b1 := hT0.bcell 0 rfl 1 rfl
    have b2 := hT0.bcell 0 rfl 2 rfl
    go_wp2_with fail
    refine (KSz _ (hT0.oldI rf)).out.mono ?_
    rintro e w2 ⟨rfl, h2⟩
    have hT2 := hT0.call0 h2
    clear hT0 h2 b0 b1 b2
    have b0 := hT2.bcell 0 rfl 0 rfl
    have b1 := hT2.bcell 0 rfl 1 rfl
    have b2 := hT2.bcell 0 rfl 2 rfl
    go_wp2_with fail
    have hR10 := hT2.drew
    go_region_held3 (fun w' => w'.cell? ⟨w1.heap.size, 0, none⟩ = some (.int .i64 p) ∧ w'.cell? ⟨w1.heap.size, 1, none⟩ = some (.int .i64 D) ∧ w'.cell? ⟨w1.heap.size, 2, none⟩ = some (.slice av fs.length cv')) (((try dsimp only); (repeat' apply And.intro); all_goals (repeat (first | assumption | exact cell_dr (by assumption) | refine cell_dr ?_ | refine cell_al ?_ | refine cell_sc (by assumption) ?_))))
      (first
      | (have hz := hX13; clear hz; go_at_call 25; refine (KM2 _ (hX13.oldI rf)).out.mono ?_; rintro e w14 ⟨rfl, g14⟩; have hX14 := hX13.call0 g14; clear g14; have x14_0 := hX14.bcell 0 rfl 0 rfl; have x14_1 := hX14.bcell 0 rfl 1 rfl; have x14_2 := hX14.bcell 0 rfl 2 rfl)
      | (have hz := hX12; clear hz; go_at_call 25; refine (KM _ (hX12.oldI rf)).out.mono ?_; rintro e w13 ⟨rfl, g13⟩; have hX13 := hX12.call0 g13; clear g13; have x13_0 := hX13.bcell 0 rfl 0 rfl; have x13_1 := hX13.bcell 0 rfl 1 rfl; have x13_2 := hX13.bcell 0 rfl 2 rfl)
      | (have hz := hX11; clear hz; go_at_call 24; refine (KA2 _ (hX11.oldI rf)).out.mono ?_; rintro e w12 ⟨rfl, g12⟩; have hX12 := hX11.call0 g12; clear g12; have x12_0 := hX12.bcell 0 rfl 0 rfl; have x12_1 := hX12.bcell 0 rfl 1 rfl; have x12_2 := hX12.bcell 0 rfl 2 rfl)
      | (go_at_call 24; refine (KA _ (hR10.oldI rf)).out.mono ?_; rintro e w11 ⟨rfl, g11⟩; have hX11 := hR10.call0 g11; clear g11; have x11_0 := hX11.bcell 0 rfl 0 rfl; have x11_1 := hX11.bcell 0 rfl 1 rfl; have x11_2 := hX11.bcell 0 rfl 2 rfl))
    clear hT2 hR10 b0 b1 b2
    have b0 := hX14.bcell 0 rfl 0 rfl
    have b1 := hX14.bcell 0 rfl 1 rfl
    have b2 := hX14.bcell 0 rfl 2 rfl
    go_wp2_with fail
    have hR20 := hX14.drew
    go_region_held3 (fun w' => w'.cell? ⟨w1.heap.size, 0, none⟩ = some (.int .i64 p) ∧ w'.cell? ⟨w1.heap.size, 1, none⟩ = some (.int .i64 D) ∧ w'.cell? ⟨w1.heap.size, 2, none⟩ = some (.slice av fs.length cv')) (((try dsimp only); (repeat' apply And.intro); all_goals (repeat (first | assumption | exact cell_dr (by assumption) | refine cell_dr ?_ | refine cell_al ?_ | refine cell_sc (by assumption) ?_))))
      (first
      | (have hz := hX27; clear hz; go_at_call 25; refine (KZ2 _ (hX27.oldI rf)).out.mono ?_; rintro e w28 ⟨rfl, g28⟩; have hX28 := hX27.call0 g28; clear g28; have x28_0 := hX28.bcell 0 rfl 0 rfl; have x28_1 := hX28.bcell 0 rfl 1 rfl; have x28_2 := hX28.bcell 0 rfl 2 rfl)
      | (have hz := hX26; clear hz; go_at_call 25; refine (KU _ (hX26.oldI rf)).out.mono ?_; rintro e w27 ⟨rfl, g27⟩; have hX27 := hX26.call0 g27; clear g27; have x27_0 := hX27.bcell 0 rfl 0 rfl; have x27_1 := hX27.bcell 0 rfl 1 rfl; have x27_2 := hX27.bcell 0 rfl 2 rfl)
      | (have hz := hX25; clear hz; go_at_call 25; refine (KZ _ (hX25.oldI rf)).out.mono ?_; rintro e w26 ⟨rfl, g26⟩; have hX26 := hX25.call0 g26; clear g26; have x26_0 := hX26.bcell 0 rfl 0 rfl; have x26_1 := hX26.bcell 0 rfl 1 rfl; have x26_2 := hX26.bcell 0 rfl 2 rfl)
      | (have hz := hX24; clear hz; go_at_call 25; refine (KM _ (hX24.oldI rf)).out.mono ?_; rintro e w25 ⟨rfl, g25⟩; have hX25 := hX24.call0 g25; clear g25; have x25_0 := hX25.bcell 0 rfl 0 rfl; have x25_1 := hX25.bcell 0 rfl 1 rfl; have x25_2 := hX25.bcell 0 rfl 2 rfl)
      | (have hz := hX23; clear hz; go_at_call 24; refine (KX2 _ (hX23.oldI rf)).out.mono ?_; rintro e w24 ⟨rfl, g24⟩; have hX24 := hX23.call0 g24; clear g24; have x24_0 := hX24.bcell 0 rfl 0 rfl; have x24_1 := hX24.bcell 0 rfl 1 rfl; have x24_2 := hX24.bcell 0 rfl 2 rfl)
      | (have hz := hX22; clear hz; go_at_call 24; refine (KY _ (hX22.oldI rf)).out.mono ?_; rintro e w23 ⟨rfl, g23⟩; have hX23 := hX22.call0 g23; clear g23; have x23_0 := hX23.bcell 0 rfl 0 rfl; have x23_1 := hX23.bcell 0 rfl 1 rfl; have x23_2 := hX23.bcell 0 rfl 2 rfl)
      | (have hz := hX21; clear hz; go_at_call 24; refine (KX _ (hX21.oldI rf)).out.mono ?_; rintro e w22 ⟨rfl, g22⟩; have hX22 := hX21.call0 g22; clear g22; have x22_0 := hX22.bcell 0 rfl 0 rfl; have x22_1 := hX22.bcell 0 rfl 1 rfl; have x22_2 := hX22.bcell 0 rfl 2 rfl)
      | (go_at_call 24; refine (KA _ (hR20.oldI rf)).out.mono ?_; rintro e w21 ⟨rfl, g21⟩; have hX21 := hR20.call0 g21; clear g21; have x21_0 := hX21.bcell 0 rfl 0 rfl; have x21_1 := hX21.bcell 0 rfl 1 rfl; have x21_2 := hX21.bcell 0 rfl 2 rfl))
    clear hX14 hR20 b0 b1 b2
    have b0 := hX28.bcell 0 rfl 0 rfl
    have b1 := hX28.bcell 0 rfl 1 rfl
    have b2 := hX28.bcell 0 rfl 2 rfl
    go_wp2_with fail
    have hR30 := hX28.drew
    go_region_held3 (fun w' => w'.cell? ⟨w1.heap.size, 0, none⟩ = some (.int .i64 p) ∧ w'.cell? ⟨w1.heap.size, 1, none⟩ = some (.int .i64 D) ∧ w'.cell? ⟨w1.heap.size, 2, none⟩ = some (.slice av fs.length cv')) (((try dsimp only); (repeat' apply And.intro); all_goals (repeat (first | assumption | exact cell_dr (by assumption) | refine cell_dr ?_ | refine cell_al ?_ | refine cell_sc (by assumption) ?_))))
      (first
      | (have hz := hX36; clear hz; go_at_call 26; refine (KS _ (hX36.oldI rf)).out.mono ?_; rintro e w37 ⟨rfl, g37⟩; have hX37 := hX36.call0 g37; clear g37; have x37_0 := hX37.bcell 0 rfl 0 rfl; have x37_1 := hX37.bcell 0 rfl 1 rfl; have x37_2 := hX37.bcell 0 rfl 2 rfl)
      | (have hz := hX35; clear hz; go_at_call 24; refine (KA _ (hX35.oldI rf)).out.mono ?_; rintro e w36 ⟨rfl, g36⟩; have hX36 := hX35.call0 g36; clear g36; have x36_0 := hX36.bcell 0 rfl 0 rfl; have x36_1 := hX36.bcell 0 rfl 1 rfl; have x36_2 := hX36.bcell 0 rfl 2 rfl)
      | (have hz := hX34; clear hz; go_at_call 24; refine (KV2 _ (hX34.oldI rf)).out.mono ?_; rintro e w35 ⟨rfl, g35⟩; have hX35 := hX34.call0 g35; clear g35; have x35_0 := hX35.bcell 0 rfl 0 rfl; have x35_1 := hX35.bcell 0 rfl 1 rfl; have x35_2 := hX35.bcell 0 rfl 2 rfl)
      | (have hz := hX33; clear hz; go_at_call 25; refine (KT _ (hX33.oldI rf)).out.mono ?_; rintro e w34 ⟨rfl, g34⟩; have hX34 := hX33.call0 g34; clear g34; have x34_0 := hX34.bcell 0 rfl 0 rfl; have x34_1 := hX34.bcell 0 rfl 1 rfl; have x34_2 := hX34.bcell 0 rfl 2 rfl)
      | (have hz := hX32; clear hz; go_at_call 25; refine (KM _ (hX32.oldI rf)).out.mono ?_; rintro e w33 ⟨rfl, g33⟩; have hX33 := hX32.call0 g33; clear g33; have x33_0 := hX33.bcell 0 rfl 0 rfl; have x33_1 := hX33.bcell 0 rfl 1 rfl; have x33_2 := hX33.bcell 0 rfl 2 rfl)
      | (have hz := hX31; clear hz; go_at_call 25; refine (KV _ (hX31.oldI rf)).out.mono ?_; rintro e w32 ⟨rfl, g32⟩; have hX32 := hX31.call0 g32; clear g32; have x32_0 := hX32.bcell 0 rfl 0 rfl; have x32_1 := hX32.bcell 0 rfl 1 rfl; have x32_2 := hX32.bcell 0 rfl 2 rfl)
      | (go_at_call 24; refine (KY _ (hR30.oldI rf)).out.mono ?_; rintro e w31 ⟨rfl, g31⟩; have hX31 := hR30.call0 g31; clear g31; have x31_0 := hX31.bcell 0 rfl 0 rfl; have x31_1 := hX31.bcell 0 rfl 1 rfl; have x31_2 := hX31.bcell 0 rfl 2 rfl))
    clear hX28 hR30 b0 b1 b2
    have b0 := hX37.bcell 0 rfl 0 rfl
    have b1 := hX37.bcell 0 rfl 1 rfl
    have b2 := hX37.bcell 0 rfl 2 rfl
    go_wp2_with fail
    refine (KMk _).out.mono ?_
    rintro e w40 ⟨p2, D2, v2, gs, rfl, hf2, hq2, h40⟩
    obtain ⟨a2, c2, rfl⟩ := (h40.rdI 0 rfl).shp'
    have hT40 := (hX37.call h40).newboxF 25 #[.int .i64 p2, .int .i64 D2, .slice a2 gs.length c2]
    have KV3 := fun W hv => Lib.hid (sValidField_c p2 D2 (.slice a2 gs.length c2) gs W hv)
    rw [hf2.ok] at KV3
    have KS3 := fun W hv => Lib.hid (FieldSize_c p2 D2 (.slice a2 gs.length c2) gs W hv hf2)
    rw [hq2] at KS3
    have b0 := hT40.bcell 0 rfl 0 rfl
    have b1 := hT40.bcell 0 rfl 1 rfl
    have b2 := hT40.bcell 0 rfl 2 rfl
    clear hf2 hq2 h40 hX37
    unfold fv at *
    by_cases h0 : a = 0
    · have e0 : (a == 0) = true := eq_t h0
      rw [if_pos h0] at KI
      clear KO KPN hO hOd hmi h0
      go_wp2_with (first
        | (have hz := hT42; clear hz; go_at_call 29; refine (KP _ (hT42.oldI rf)).out.mono ?_; rintro e w43 ⟨rfl, g43⟩; have hT43 := hT42.call0 g43; have f0 := hT43.bcell 1 rfl 0 rfl; have f1 := hT43.bcell 1 rfl 1 rfl; have f2 := hT43.bcell 1 rfl 2 rfl)
        | (have hz := hT41; clear hz; go_at_call 23; refine (KS3 _ (hT41.rdI 2 rfl)).out.mono ?_; rintro e w42 ⟨rfl, g42⟩; have hT42 := hT41.call0 g42; have e0 := hT42.bcell 1 rfl 0 rfl; have e1 := hT42.bcell 1 rfl 1 rfl; have e2 := hT42.bcell 1 rfl 2 rfl)
        | (go_at_call 28; refine (KV3 _ (hT40.rdI 2 rfl)).out.mono ?_; rintro e w41 ⟨rfl, g41⟩; have hT41 := hT40.call0 g41; have d0 := hT41.bcell 0 rfl 0 rfl; have d1 := hT41.bcell 0 rfl 1 rfl; have d2 := hT41.bcell 0 rfl 2 rfl))
      refine (KI _ (hT43.oldI rf)).out.mono ?_
      rintro e w44 ⟨rfl, g44⟩
      have hT44 := hT43.call0 g44
      go_wp2_with fail
      go_ret
      exact ⟨rfl, (hend _ _ hT44).out⟩
    · have e0 : (a == 0) = false := eq_f h0
      rw [if_neg h0] at KI
      have KO := KO h0
      have KPN := KPN h0
      have O1 := hO h0
      have Od := hOd h0
      have hmi := hmi h0
      rw [hmi.out] at KMI
      rw [O1.out.one] at KPN
      have on1 := O1.out.pos
      have onQ := O1.out.le
      have hod := Od.out
      clear hO hOd hmi O1 Od h0
      generalize ordF p D fs a = N at *
      generalize pw p D fs a (Q - 1) = I at *
      go_wp2_with (first
        | (have hz := hT42; clear hz; go_at_call 29; refine (KP _ (hT42.oldI rf)).out.mono ?_; rintro e w43 ⟨rfl, g43⟩; have hT43 := hT42.call0 g43; have f0 := hT43.bcell 1 rfl 0 rfl; have f1 := hT43.bcell 1 rfl 1 rfl; have f2 := hT43.bcell 1 rfl 2 rfl)
        | (have hz := hT41; clear hz; go_at_call 23; refine (KS3 _ (hT41.rdI 2 rfl)).out.mono ?_; rintro e w42 ⟨rfl, g42⟩; have hT42 := hT41.call0 g42; have e0 := hT42.bcell 1 rfl 0 rfl; have e1 := hT42.bcell 1 rfl 1 rfl; have e2 := hT42.bcell 1 rfl 2 rfl)
        | (go_at_call 28; refine (KV3 _ (hT40.rdI 2 rfl)).out.mono ?_; rintro e w41 ⟨rfl, g41⟩; have hT41 := hT40.call0 g41; have d0 := hT41.bcell 0 rfl 0 rfl; have d1 := hT41.bcell 0 rfl 1 rfl; have d2 := hT41.bcell 0 rfl 2 rfl))
      refine (KO _ (hT43.oldI rf)).out.mono ?_
      rintro e w44 ⟨rfl, g44⟩
      have hT44 := (hT43.call0 g44).perm (L' := [box 25 w1.heap.size [.int .i64 p, .int .i64 D, .slice av fs.length cv'], box 25 w40.heap.size [.int .i64 p2, .int .i64 D2, .slice a2 gs.length c2], row 2 (.slice a2 gs.length c2) (iv gs)]) (List.Perm.swap _ _ _)
      clear hT40 hT41 hT42 hT43 g41 g42 g43 g44 b0 b1 b2 d0 d1 d2 f0 f1 f2 e1 e2
      have b0 := hT44.bcell 0 rfl 0 rfl
      have b1 := hT44.bcell 0 rfl 1 rfl
      have b2 := hT44.bcell 0 rfl 2 rfl
      go_wp2_with fail
      have hw : IntKind.i64.wrap ((Q : Int) + 1 - 1) = Q := by rw [IntWalk.i64_in _ (by omega)]; omega
      have hN0 : (0 : Int) < (N : Int) := by omega
      have hN2 : 0 < N := by omega
      have hN3 : ¬ N = 0 := by omega
      have hN4 : ¬ (N : Int) = 0 := by omega
      have hw2 : IntKind.i64.wrap (Q : Int) = Q := IntWalk.i64_in _ (by omega)
      have ht0 : (Q : Int).tmod (N : Int) = 0 := by rw [Int.tmod_eq_emod_of_nonneg (by omega)]; omega
      have ht1 : IntKind.i64.wrap ((Q : Int).tmod (N : Int)) = 0 := by rw [ht0]; decide
      have ht2 : IntKind.i64.wrap ((Q : Int) % (N : Int)) = 0 := by rw [show (Q : Int) % (N : Int) = 0 by omega]; decide
      have hdv0 : (Q : Int) % (N : Int) = 0 := by omega
      have hdv : ((Q : Int) % (N : Int) == 0) = true := eq_t hdv0
      have hR50 := hT44.drew
      go_region_held3 (fun w' => w'.cell? ⟨w1.heap.size, 0, none⟩ = some (.int .i64 p) ∧ w'.cell? ⟨w1.heap.size, 1, none⟩ = some (.int .i64 D) ∧ w'.cell? ⟨w1.heap.size, 2, none⟩ = some (.slice av fs.length cv')) (((try dsimp only); (repeat' apply And.intro); all_goals (repeat (first | assumption | exact cell_dr (by assumption) | refine cell_dr ?_ | refine cell_al ?_ | refine cell_sc (by assumption) ?_))))
      (first
      | (have hz := hX52; clear hz; go_at_call 29; refine (KPN _ (hX52.oldI rf)).out.mono ?_; rintro e w53 ⟨rfl, g53⟩; have hX53 := hX52.call0 g53; clear g53; have x53_0 := hX53.bcell 0 rfl 0 rfl; have x53_1 := hX53.bcell 0 rfl 1 rfl; have x53_2 := hX53.bcell 0 rfl 2 rfl)
      | (have hz := hX51; clear hz; go_at_call 25; refine (KMI _ (hX51.oldI rf)).out.mono ?_; rintro e w52 ⟨rfl, g52⟩; have hX52 := hX51.call0 g52; clear g52; have x52_0 := hX52.bcell 0 rfl 0 rfl; have x52_1 := hX52.bcell 0 rfl 1 rfl; have x52_2 := hX52.bcell 0 rfl 2 rfl)
      | (go_at_call 30; refine (KI _ (hR50.oldI rf)).out.mono ?_; rintro e w51 ⟨rfl, g51⟩; have hX51 := hR50.call0 g51; clear g51; have x51_0 := hX51.bcell 0 rfl 0 rfl; have x51_1 := hX51.bcell 0 rfl 1 rfl; have x51_2 := hX51.bcell 0 rfl 2 rfl))
      all_goals
        go_wp2_with fail
        go_ret
        exact ⟨rfl, (hend _ _ hX53).out⟩
end Go.Proofs.Ytcenabaklokhhaa
