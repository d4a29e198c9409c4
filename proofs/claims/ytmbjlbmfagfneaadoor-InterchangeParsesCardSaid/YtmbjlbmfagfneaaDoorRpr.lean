/- Print of the reference. -/
import Derived.Test.YtmbjlbmfagfneaaDoorRin
import Derived.Deep.RegionHeld3
import Derived.Deep.DrawnRows
namespace Go.Proofs.YtmbjlbmfagfneaaDoor
open Go Go.RowKit
attribute [local go_sem ↓] Go.wp_at_zero Go.wp_at_succ

/-- number's text, under a name of its own -/
structure NumT (n : Int) (X : ByteArray) : Prop where
  eq : X = ofB (Lib.itoa n)
  rng : -1048576 ≤ n ∧ n ≤ 1048576
theorem NumT.size {n : Int} {X : ByteArray} (h : NumT n X) : X.size ≤ 8 := by rw [h.eq, ofB_size]; exact itoa_len h.rng.1 h.rng.2
theorem NumT.mk' {n : Int} (h : -1048576 ≤ n ∧ n ≤ 1048576) : ∃ X, NumT n X ∧ X.size ≤ 8 := ⟨_, ⟨rfl, h⟩, NumT.size ⟨rfl, h⟩⟩
theorem c_rnumX (n : Int) (X : ByteArray) (w : World) (h : NumT n X) : Calls Tryd.prog 25 #[.int .i64 n] w fun e w' => e = .returned (.string X) ∧ Ext w w' := by
  rw [h.eq]; exact c_rnum n w h.rng

theorem head_str {m : Mk} {X0 X1 X2 X3 : ByteArray} (h0 : X0 = ofB (Lib.itoa m.len)) (h1 : X1 = ofB (Lib.itoa m.wid)) (h2 : X2 = ofB (Lib.itoa m.rx)) (h3 : X3 = ofB (Lib.itoa m.ry)) :
    (⟨#[109, 97, 114, 107, 101, 114, 32]⟩ : ByteArray) ++ X0 ++ ⟨#[32]⟩ ++ X1 ++ ⟨#[32]⟩ ++ X2 ++ ⟨#[32]⟩ ++ X3 ++ ⟨#[10, 115, 105, 122, 101, 115]⟩ = ofB (headL m ++ [10] ++ joinL Tsizes (m.sizes.take 0)) := by
  rw [h0, h1, h2, h3, show (⟨#[109, 97, 114, 107, 101, 114, 32]⟩ : ByteArray) = ofB (Tmarker ++ [32]) from rfl, show (⟨#[32]⟩ : ByteArray) = ofB [32] from rfl, show (⟨#[10, 115, 105, 122, 101, 115]⟩ : ByteArray) = ofB (10 :: Tsizes) from rfl]
  simp only [ofB_app, headL_join, joinL]
  simp

theorem place_str {p : Pl} {T X0 X1 X2 : ByteArray} {t : B} (hT : T = ofB t) (h0 : X0 = ofB (Lib.itoa p.g)) (h1 : X1 = ofB (Lib.itoa p.u)) (h2 : X2 = ofB (Lib.itoa p.c)) :
    T ++ ⟨#[112, 108, 97, 99, 101, 32]⟩ ++ X0 ++ ⟨#[32]⟩ ++ X1 ++ ⟨#[32]⟩ ++ X2 = ofB (t ++ joinL Tplace [p.g, p.u, p.c]) := by
  rw [hT, h0, h1, h2, show (⟨#[112, 108, 97, 99, 101, 32]⟩ : ByteArray) = ofB (Tplace ++ [32]) from rfl, show (⟨#[32]⟩ : ByteArray) = ofB [32] from rfl]
  simp only [ofB_app, joinL]
  simp

theorem end_no {p : Pl} {L L2 Y0 Y1 Y2 : ByteArray} {t : B} (hf : p.f = false) (hL : L = ofB (t ++ joinL Tplace [p.g, p.u, p.c])) (hL2 : L2 = L) (h0 : Y0 = ofB (Lib.itoa p.q)) (h1 : Y1 = ofB (Lib.itoa p.x)) (h2 : Y2 = ofB (Lib.itoa p.y)) :
    L2 ++ ⟨#[32]⟩ ++ Y0 ++ ⟨#[32]⟩ ++ Y1 ++ ⟨#[32]⟩ ++ Y2 ++ ⟨#[10]⟩ = ofB (t ++ (plL p ++ [10])) := by
  rw [hL2, hL, h0, h1, h2, plL_join, hf, show (⟨#[10]⟩ : ByteArray) = ofB [10] from rfl, show (⟨#[32]⟩ : ByteArray) = ofB [32] from rfl]
  simp only [ofB_app, joinL]
  simp
theorem end_yes {p : Pl} {L L2 Y0 Y1 Y2 : ByteArray} {t : B} (hf : p.f = true) (hL : L = ofB (t ++ joinL Tplace [p.g, p.u, p.c])) (hL2 : L2 = L ++ ⟨#[32, 102, 108, 105, 112]⟩) (h0 : Y0 = ofB (Lib.itoa p.q)) (h1 : Y1 = ofB (Lib.itoa p.x)) (h2 : Y2 = ofB (Lib.itoa p.y)) :
    L2 ++ ⟨#[32]⟩ ++ Y0 ++ ⟨#[32]⟩ ++ Y1 ++ ⟨#[32]⟩ ++ Y2 ++ ⟨#[10]⟩ = ofB (t ++ (plL p ++ [10])) := by
  rw [hL2, hL, h0, h1, h2, plL_join, hf, show (⟨#[10]⟩ : ByteArray) = ofB [10] from rfl, show (⟨#[32]⟩ : ByteArray) = ofB [32] from rfl, show (⟨#[32, 102, 108, 105, 112]⟩ : ByteArray) = ofB (32 :: Tflip) from rfl]
  simp only [ofB_app, joinL]
  simp

set_option maxHeartbeats 1000000 in
theorem c_rprint (m : Mk) (v : Value) (w : World) (hm : RdM w v m) : Calls Tryd.prog 12 #[v] w (PriOut m w) := by
  have hm0 := Lib.hid hm
  obtain ⟨sv, pv, rfl, hsv, hpv⟩ := hm
  obtain ⟨As, cs, rfl, hs1, hs2, hsc⟩ := hsv
  obtain ⟨Ap, cp, rfl, hp1, hp2, hpc⟩ := hpv
  unfold maxLen at hs2 hp2
  replace hsc := Lib.hid hsc
  replace hpc := Lib.hid hpc
  unfold mkV
  unfold mkV at hm0
  go_enter Tryd.func12, Tryd.ntmps12
  by_cases h6 : 6 < m.sizes.length
  · go_wp2
    go_ret2
    exact PriOut.mk (print_long (.inl h6)) ((Ext.refl w).alloc _)
  by_cases h60 : 60 < m.places.length
  · go_wp2
    go_ret2
    exact PriOut.mk (print_long (.inr h60)) ((Ext.refl w).alloc _)
  go_wp2_with fail
  refine (c_rinRange m _ _ (hm0.out.ext ((Ext.refl w).alloc _))).mono ?_
  rintro e w1 ⟨rfl, hX1⟩
  have hb1 := (Blk.new w 27 (mkA m (.slice As m.sizes.length cs) (.slice Ap m.places.length cp))).ext hX1
  have hE1 := Lib.hid (((Ext.refl w).alloc _).trans hX1)
  obtain ⟨⟨q0, q1, q2, q3, q4, q5⟩, _, hlt⟩ := hb1.parts6
  replace hb1 := Lib.hid hb1
  replace hX1 := Lib.hid hX1
  rcases hk : mkOk m with _ | _
  · go_wp2
    go_ret2
    exact PriOut.mk (print_bad (by omega) (by omega) hk) hE1.out
  obtain ⟨hhd, hsz, hpl⟩ := mkOk_parts hk
  obtain ⟨r0, r1, r2, r3⟩ := headOk_iff.1 hhd
  obtain ⟨X0, hX0, z0⟩ := NumT.mk' (n := m.len) (by omega)
  obtain ⟨X1, hX1', z1⟩ := NumT.mk' (n := m.wid) (by omega)
  obtain ⟨X2, hX2, z2⟩ := NumT.mk' (n := m.rx) (by omega)
  obtain ⟨X3, hX3, z3⟩ := NumT.mk' (n := m.ry) (by omega)
  replace hk := Lib.hid hk
  replace hhd := Lib.hid hhd
  replace hsz := Lib.hid hsz
  replace hpl := Lib.hid hpl
  clear r0 r1 r2 r3
  have k0 : ¬ 9223372036854775807 < 7 + X0.size := by omega
  have k1 : ¬ 9223372036854775807 < 7 + X0.size + 1 := by omega
  have k2 : ¬ 9223372036854775807 < 7 + X0.size + 1 + X1.size := by omega
  have k3 : ¬ 9223372036854775807 < 7 + X0.size + 1 + X1.size + 1 := by omega
  have k4 : ¬ 9223372036854775807 < 7 + X0.size + 1 + X1.size + 1 + X2.size := by omega
  have k5 : ¬ 9223372036854775807 < 7 + X0.size + 1 + X1.size + 1 + X2.size + 1 := by omega
  have k6 : ¬ 9223372036854775807 < 7 + X0.size + 1 + X1.size + 1 + X2.size + 1 + X3.size := by omega
  have k7 : ¬ 9223372036854775807 < 7 + X0.size + 1 + X1.size + 1 + X2.size + 1 + X3.size + 6 := by omega
  have hN : w1.heap.size ≤ w1.heap.size := Nat.le_refl _
  go_wp2_with fail
  go_region_held3 (fun w' => (∀ b o, b < w1.heap.size → w'.cell? ⟨b, o, none⟩ = w1.cell? ⟨b, o, none⟩) ∧ Kp w1.heap.size w1 w')
    (first
      | exact (Kp.start hN).drew.both
      | (go_split_ands; exact ((by assumption : Kp _ _ _).call he).both))
    (first
      | (go_at_call 25; go_split_ands; (with_reducible refine (c_rnumX m.len X0 _ hX0).mono ?_); rintro e wS ⟨rfl, he⟩)
      | (go_at_call 25; go_split_ands; (with_reducible refine (c_rnumX m.wid X1 _ hX1').mono ?_); rintro e wS ⟨rfl, he⟩)
      | (go_at_call 25; go_split_ands; (with_reducible refine (c_rnumX m.rx X2 _ hX2).mono ?_); rintro e wS ⟨rfl, he⟩)
      | (go_at_call 25; go_split_ands; (with_reducible refine (c_rnumX m.ry X3 _ hX3).mono ?_); rintro e wS ⟨rfl, he⟩))
  have hE2 := Lib.hid (hE1.out.trans ((by assumption : _ ∧ Kp w1.heap.size w1 wS).2.ext (Ext.refl _) (Nat.le_refl _)))
  have hX2' := Lib.hid ((by assumption : _ ∧ Kp w1.heap.size w1 wS).2.ext (Ext.refl w1) (Nat.le_refl _))
  obtain ⟨S0, hS0⟩ : ∃ S0, S0 = ((⟨#[109, 97, 114, 107, 101, 114, 32]⟩ : ByteArray) ++ X0 ++ ⟨#[32]⟩ ++ X1 ++ ⟨#[32]⟩ ++ X2 ++ ⟨#[32]⟩ ++ X3 ++ ⟨#[10, 115, 105, 122, 101, 115]⟩) := ⟨_, rfl⟩
  have hS1 := Lib.hid (show S0 = ofB (headL m ++ [10] ++ joinL Tsizes (m.sizes.take 0)) from hS0.trans (head_str hX0.eq hX1'.eq hX2.eq hX3.eq))
  rw [← hS0]
  clear hS0 k0 k1 k2 k3 k4 k5 k6 k7 z0 z1 z2 z3 hX0 hX1' hX2 hX3 q0 q1 q2 q3 q4 q5
  go_wp2
  go_loopw [4, 5] (fun x i wr => ∃ (k : Nat) (S : ByteArray), k ≤ m.sizes.length ∧ i = .int .i64 (k : Nat) ∧ x = .string S ∧ S = ofB (headL m ++ [10] ++ joinL Tsizes (m.sizes.take k)) ∧ Ext w1 wr) (fun _ i _ => m.sizes.length - (intOf i).toNat)
  case atStart => exact ⟨0, S0, Nat.zero_le _, rfl, rfl, hS1.out, hX2'.out⟩
  case round =>
    obtain ⟨k, S, hk', rfl, rfl, hS, hX⟩ := hrel
    have hSl : S.size ≤ 200 := by
      rw [hS, ofB_size]
      have a := headL_len m hhd.out
      have b := joinL_len Tsizes (m.sizes.take k) (fun n hn => by
        have := inR_iff.1 (List.all_eq_true.1 hsz.out n (List.mem_of_mem_take hn))
        omega)
      have c : Tsizes.length = 5 := rfl
      rw [List.length_take] at b
      simp only [List.length_append, List.length_cons, List.length_nil]
      have : min k m.sizes.length * 9 ≤ 54 := by omega
      omega
    have q4 := hX.cell (hb1.out.parts6.1.2.2.2.2.1)
    by_cases hlt' : k < m.sizes.length
    · obtain ⟨b, o, rfl, c0⟩ := hsc.out k hlt'
      replace c0 := (hE1.out.trans hX).cell c0
      have hrg := inR_iff.1 (List.all_eq_true.1 hsz.out _ (List.getElem_mem hlt'))
      obtain ⟨X, hXn, zx⟩ := NumT.mk' (n := m.sizes[k]) (by omega)
      have hS2 := Lib.hid (show S ++ ⟨#[32]⟩ ++ X = ofB (headL m ++ [10] ++ joinL Tsizes (m.sizes.take (k + 1))) by
        rw [hS, hXn.eq, joinL_snoc Tsizes m.sizes k hlt', show (⟨#[32]⟩ : ByteArray) = ofB [32] from rfl, ofB_app, ofB_app]; simp)
      replace hS := Lib.hid hS
      replace hX := Lib.hid hX
      have k0 : ¬ 9223372036854775807 < S.size + 1 := by omega
      have k1 : ¬ 9223372036854775807 < S.size + 1 + X.size := by omega
      clear hrg
      go_wp2_with fail
      refine (c_rnumX _ X _ hXn).mono ?_
      rintro e w2 ⟨rfl, hx2⟩
      replace hx2 := Lib.hid hx2
      go_wp2
      go_roundw
      case rel => exact ⟨k + 1, _, by omega, by go_num, rfl, hS2.out, hX.out.trans hx2.out⟩
      case measure => simp [intOf]; omega
    · have hT0 := Lib.hid (show S ++ ⟨#[10]⟩ = ofB (textUp m 0) by
        rw [hS, List.take_of_length_le (by omega), snl, textUp_zero, sizesL_join]; simp)
      replace hS := Lib.hid hS
      replace hX := Lib.hid hX
      have k0 : ¬ 9223372036854775807 < S.size + 1 := by omega
      go_wp2
      obtain ⟨S1, hS1'⟩ : ∃ S1, S1 = S ++ ⟨#[10]⟩ := ⟨_, rfl⟩
      rw [← hS1'] at hT0 ⊢
      clear hS1' q4 hSl k0
      go_loopw [4, 6] (fun x i wr' => ∃ (k : Nat) (S : ByteArray), k ≤ m.places.length ∧ i = .int .i64 (k : Nat) ∧ x = .string S ∧ S = ofB (textUp m k) ∧ Ext w1 wr') (fun _ i _ => m.places.length - (intOf i).toNat)
      case atStart => exact ⟨0, S1, Nat.zero_le _, rfl, rfl, hT0.out, hX.out⟩
      case round =>
        obtain ⟨k2, T, hk2, rfl, rfl, hT, hX3⟩ := hrel
        have hTl : T.size ≤ 200 + k2 * 101 := by
          rw [hT, ofB_size]
          exact textUp_len m hhd.out hsz.out (by omega) k2 hk2 (List.all_eq_true.2 fun p hp => List.all_eq_true.1 hpl.out p (List.mem_of_mem_take hp))
        have q5 := hX3.cell (hb1.out.parts6.1.2.2.2.2.2)
        by_cases hlt2 : k2 < m.places.length
        · obtain ⟨b, o, rfl, c0, c1, c2, c3, c4, c5, c6⟩ := hpc.out k2 hlt2
          have hw := hE1.out.trans hX3
          replace c0 := hw.cell c0
          replace c1 := hw.cell c1
          replace c2 := hw.cell c2
          replace c3 := hw.cell c3
          replace c4 := hw.cell c4
          replace c5 := hw.cell c5
          replace c6 := hw.cell c6
          replace hw := Lib.hid hw
          have hTs := Lib.hid (textUp_snoc m k2 hlt2)
          have hok : plOk m.places[k2] = true := List.all_eq_true.1 hpl.out _ (List.getElem_mem hlt2)
          obtain ⟨p, hp⟩ : ∃ p, p = m.places[k2] := ⟨_, rfl⟩
          rw [← hp] at c0 c1 c2 c3 c4 c5 c6 hok hTs
          replace hp := Lib.hid hp
          replace hX3 := Lib.hid hX3
          replace hT := Lib.hid hT
          obtain ⟨r0, r1, r2, r3, r4, r5⟩ := plOk_iff.1 hok
          obtain ⟨X0, hX0, z0⟩ := NumT.mk' (n := p.g) (by omega)
          obtain ⟨X1, hX1', z1⟩ := NumT.mk' (n := p.u) (by omega)
          obtain ⟨X2, hX2, z2⟩ := NumT.mk' (n := p.c) (by omega)
          obtain ⟨Y0, hY0, y0⟩ := NumT.mk' (n := p.q) (by omega)
          obtain ⟨Y1, hY1, y1⟩ := NumT.mk' (n := p.x) (by omega)
          obtain ⟨Y2, hY2, y2⟩ := NumT.mk' (n := p.y) (by omega)
          clear r0 r1 r2 r3 r4 r5
          replace hok := Lib.hid hok
          go_wp2_with fail
          obtain ⟨wP, hwP⟩ : ∃ wP, wP = wr.alloc (.cells (plC p).toArray 46) := ⟨_, rfl⟩
          have hbP := show Blk wP wr.heap.size 46 (plC p).toArray from hwP ▸ Blk.new wr 46 _
          have hEP := Lib.hid (show Ext w1 wP from hwP ▸ hX3.out.alloc _)
          unfold plC at hwP
          rw [show wr.alloc (.cells #[.int .i64 p.g, .int .i64 p.u, .int .i64 p.c, .bool p.f, .int .i64 p.q, .int .i64 p.x, .int .i64 p.y] 46) = wP from hwP.symm]
          clear hwP c0 c1 c2 c3 c4 c5 c6 q5
          have d0 : wP.cell? ⟨wr.heap.size, 0, none⟩ = some (.int .i64 p.g) := hbP.cell 0
          have d1 : wP.cell? ⟨wr.heap.size, 1, none⟩ = some (.int .i64 p.u) := hbP.cell 1
          have d2 : wP.cell? ⟨wr.heap.size, 2, none⟩ = some (.int .i64 p.c) := hbP.cell 2
          have dlt := hbP.lt
          replace hbP := Lib.hid hbP
          have hNP : wP.heap.size ≤ wP.heap.size := Nat.le_refl _
          have k0 : ¬ 9223372036854775807 < T.size + 6 := by omega
          have k1 : ¬ 9223372036854775807 < T.size + 6 + X0.size := by omega
          have kk2 : ¬ 9223372036854775807 < T.size + 6 + X0.size + 1 := by omega
          have k3 : ¬ 9223372036854775807 < T.size + 6 + X0.size + 1 + X1.size := by omega
          have k4 : ¬ 9223372036854775807 < T.size + 6 + X0.size + 1 + X1.size + 1 := by omega
          have k5 : ¬ 9223372036854775807 < T.size + 6 + X0.size + 1 + X1.size + 1 + X2.size := by omega
          go_region_held3 (fun w' => (∀ b o, b < wP.heap.size → w'.cell? ⟨b, o, none⟩ = wP.cell? ⟨b, o, none⟩) ∧ Kp wP.heap.size wP w')
            (first
              | exact (Kp.start hNP).drew.both
              | (go_split_ands; exact ((by assumption : Kp _ _ _).call he).both))
            (first
              | (go_at_call 25; go_split_ands; (with_reducible refine (c_rnumX p.g X0 _ hX0).mono ?_); rintro e wQ ⟨rfl, he⟩)
              | (go_at_call 25; go_split_ands; (with_reducible refine (c_rnumX p.u X1 _ hX1').mono ?_); rintro e wQ ⟨rfl, he⟩)
              | (go_at_call 25; go_split_ands; (with_reducible refine (c_rnumX p.c X2 _ hX2).mono ?_); rintro e wQ ⟨rfl, he⟩))
          have hPQ := (by assumption : _ ∧ Kp wP.heap.size wP wQ).2.ext (Ext.refl wP) (Nat.le_refl _)
          have hbQ := hbP.out.ext hPQ
          have hEQ := Lib.hid (hEP.out.trans hPQ)
          obtain ⟨L1, hL1⟩ : ∃ L1, L1 = (T ++ ⟨#[112, 108, 97, 99, 101, 32]⟩ ++ X0 ++ ⟨#[32]⟩ ++ X1 ++ ⟨#[32]⟩ ++ X2) := ⟨_, rfl⟩
          have hL1s : L1.size ≤ T.size + 32 := by
            rw [hL1]
            simp only [ByteArray.size_append]
            have e1 : (⟨#[112, 108, 97, 99, 101, 32]⟩ : ByteArray).size = 6 := rfl
            have e2 : (⟨#[32]⟩ : ByteArray).size = 1 := rfl
            omega
          rw [← hL1]
          have hL2 := Lib.hid (show L1 = ofB (textUp m k2 ++ joinL Tplace [p.g, p.u, p.c]) from hL1.trans (place_str hT.out hX0.eq hX1'.eq hX2.eq))
          clear hL1 k0 k1 kk2 k3 k4 k5 d0 d1 d2 dlt hPQ
          have d3 : wQ.cell? ⟨wr.heap.size, 3, none⟩ = some (.bool p.f) := hbQ.cell 3
          have d4 : wQ.cell? ⟨wr.heap.size, 4, none⟩ = some (.int .i64 p.q) := hbQ.cell 4
          have d5 : wQ.cell? ⟨wr.heap.size, 5, none⟩ = some (.int .i64 p.x) := hbQ.cell 5
          have d6 : wQ.cell? ⟨wr.heap.size, 6, none⟩ = some (.int .i64 p.y) := hbQ.cell 6
          have dlt := hbQ.lt
          replace hbQ := Lib.hid hbQ
          have hNQ : wQ.heap.size ≤ wQ.heap.size := Nat.le_refl _
          have kf : ¬ 9223372036854775807 < L1.size + 5 := by omega
          rcases hf : p.f with _ | _
          all_goals
            rw [hf] at d3
            go_wp2_with fail
            first
              | (obtain ⟨L2, hL2e⟩ : ∃ L2, L2 = L1 ++ ⟨#[32, 102, 108, 105, 112]⟩ := ⟨_, rfl⟩; rw [← hL2e])
              | (obtain ⟨L2, hL2e⟩ : ∃ L2, L2 = L1 := ⟨_, rfl⟩; rw [← hL2e])
            have hL2s : L2.size ≤ T.size + 40 := by rw [hL2e]; first | (rw [fl5]; omega) | omega
            have hfs := Lib.hid (show L2 ++ ⟨#[32]⟩ ++ Y0 ++ ⟨#[32]⟩ ++ Y1 ++ ⟨#[32]⟩ ++ Y2 ++ ⟨#[10]⟩ = ofB (textUp m (k2 + 1)) by
              rw [hTs.out]
              first
                | exact end_no hf hL2.out hL2e hY0.eq hY1.eq hY2.eq
                | exact end_yes hf hL2.out hL2e hY0.eq hY1.eq hY2.eq)
            replace hL2e := Lib.hid hL2e
            clear d3 kf
            have j0 : ¬ 9223372036854775807 < L2.size + 1 := by omega
            have j1 : ¬ 9223372036854775807 < L2.size + 1 + Y0.size := by omega
            have j2 : ¬ 9223372036854775807 < L2.size + 1 + Y0.size + 1 := by omega
            have j3 : ¬ 9223372036854775807 < L2.size + 1 + Y0.size + 1 + Y1.size := by omega
            have j4 : ¬ 9223372036854775807 < L2.size + 1 + Y0.size + 1 + Y1.size + 1 := by omega
            have j5 : ¬ 9223372036854775807 < L2.size + 1 + Y0.size + 1 + Y1.size + 1 + Y2.size := by omega
            have j6 : ¬ 9223372036854775807 < L2.size + 1 + Y0.size + 1 + Y1.size + 1 + Y2.size + 1 := by omega
            go_region_held3 (fun w' => (∀ b o, b < wQ.heap.size → w'.cell? ⟨b, o, none⟩ = wQ.cell? ⟨b, o, none⟩) ∧ Kp wQ.heap.size wQ w')
              (first
                | exact (Kp.start hNQ).drew.both
                | (go_split_ands; exact ((by assumption : Kp _ _ _).call he).both))
              (first
                | (go_at_call 25; go_split_ands; (with_reducible refine (c_rnumX p.q Y0 _ hY0).mono ?_); rintro e wT ⟨rfl, he⟩)
                | (go_at_call 25; go_split_ands; (with_reducible refine (c_rnumX p.x Y1 _ hY1).mono ?_); rintro e wT ⟨rfl, he⟩)
                | (go_at_call 25; go_split_ands; (with_reducible refine (c_rnumX p.y Y2 _ hY2).mono ?_); rintro e wT ⟨rfl, he⟩))
            have hET := Lib.hid (hEQ.out.trans ((by assumption : _ ∧ Kp wQ.heap.size wQ wT).2.ext (Ext.refl wQ) (Nat.le_refl _)))
            go_wp2
            go_roundw
            case rel => exact ⟨k2 + 1, _, by omega, by go_num, rfl, hfs.out, hET.out⟩
            case measure => simp [intOf]; omega
        · have hall := Lib.hid (textUp_all m k2 (by omega))
          replace hT := Lib.hid hT
          replace hX3 := Lib.hid hX3
          go_wp2
          go_ret2
          have hfin := PriOut.mk (w := w) (w' := wr) (t := textUp m k2) (by rw [hall.out]; exact print_ok (by omega) (by omega) hk.out) (hE1.out.trans hX3.out)
          rw [← hT.out] at hfin
          exact hfin

end Go.Proofs.YtmbjlbmfagfneaaDoor
