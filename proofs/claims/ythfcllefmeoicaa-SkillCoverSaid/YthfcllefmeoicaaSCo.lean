/- SkillCover walked. -/
import Derived.Test.YthfcllefmeoicaaLawC
namespace Go.Proofs.Ythfcllefmeoicaa
open Go.RowKit
attribute [local go_sem ↓] Go.wp_at_zero Go.wp_at_succ

set_option maxRecDepth 100000 in
set_option maxHeartbeats 2000000 in
theorem w_cover (v u : Value) (ws : List Wk) (needs : List Int) (w : World) (h : RdW w v ws) (g : RdI w u needs) :
    Calls Try.prog 6 #[v, u] w fun e w' => e = .returned (.bool true) ∧ Ext w w' := by
  have hh := Lib.hid h
  have gg := Lib.hid g
  obtain ⟨A, cap, rfl, hcap, hmax, hc⟩ := h
  obtain ⟨B, capB, rfl, hcapB, hmaxB, hd⟩ := g
  unfold maxLen at hmax hmaxB
  replace hc := Lib.hid hc
  replace hd := Lib.hid hd
  cases hL : lightB ws needs.length with
  | false =>
    go_enter Try.func6, Try.ntmps6
    go_wp2_with fail
    refine (c_light _ _ ws needs _ hh.out gg.out).mono ?_
    rintro e w1 ⟨rfl, rfl⟩
    rw [hL]
    go_wp2_with fail
    refine (c_alive _).mono ?_
    rintro e w1 ⟨rfl, he⟩
    replace he := Lib.hid he
    go_wp2_with fail
    go_ret
    exact ⟨rfl, he.out⟩
  | true =>
    go_enter Try.func6, Try.ntmps6
    go_wp2_with fail
    refine (c_light _ _ ws needs _ hh.out gg.out).mono ?_
    rintro e w1 ⟨rfl, rfl⟩
    rw [hL]
    go_wp2_with fail
    refine (c_matchAny _ _ ws needs _ hh.out gg.out).mono ?_
    rintro e w1 ⟨r, rfl, hR, hF, hE⟩
    replace hR := Lib.hid hR
    replace hE := Lib.hid hE
    clear hF
    go_wp2_with fail
    refine (c_coverAny _ _ ws needs _ (hh.out.ext hE.out) (gg.out.ext hE.out)).mono ?_
    rintro e w2 ⟨ra, rb, rfl, hRa, hRb, _, _, hE2⟩
    replace hR := Lib.hid (hR.out.ext hE2)
    replace hE2 := Lib.hid (hE.out.trans hE2)
    replace hRa := Lib.hid hRa
    replace hRb := Lib.hid hRb
    clear hE
    obtain ⟨Ar, capr, rfl⟩ := hR.out.nat
    obtain ⟨Aa, capa, rfl⟩ := hRa.out.nat
    obtain ⟨Ab, capb, rfl⟩ := hRb.out.nat
    by_cases h0 : askE ws needs = 0
    · have hE0 : (askE ws needs != 0) = false := by simp [h0]
      have hE1 : (askE ws needs != askE ws needs) = false := by simp
      have hlen := mtL_len h0
      obtain ⟨hsum, hcov⟩ := cvL_spec h0
      have hfl := filledI_le (mtL ws needs)
      obtain ⟨_, _, h16, _⟩ := askE_ok h0
      have hlen' : (((mtL ws needs).length : Int) != (needs.length : Int)) = false := by simp; omega
      have hsum' : (((cvL ws needs).1.length : Int) + ((cvL ws needs).2.length : Int) != (filledI (mtL ws needs) : Nat)) = false := by simp; omega
      have hbd1 : (cvL ws needs).1.length ≤ 16 := by omega
      have hbd2 : (cvL ws needs).2.length ≤ 16 := by omega
      replace hlen := Lib.hid hlen
      replace hsum := Lib.hid hsum
      replace hcov := Lib.hid hcov
      clear h0
      generalize cvL ws needs = C at *
      generalize mtL ws needs = R at *
      go_wp2_with fail
      refine (c_filled _ R _ hR.out).mono ?_
      rintro e w3 ⟨rfl, rfl⟩
      go_wp2_with fail
      clear hE0 hE1 hlen' hsum'
      go_loopw [10, 11] (fun i u8 wr => ∃ k : Nat, k ≤ needs.length ∧ i = .int .i64 k ∧ Ext w2 wr) (fun i _ _ => needs.length - (intOf i).toNat)
      case atStart => exact ⟨0, Nat.zero_le _, rfl, Ext.refl _⟩
      case round =>
        obtain ⟨k, hk, rfl, hext⟩ := hrel
        replace hext := Lib.hid hext
        by_cases hlt : k < needs.length
        · obtain ⟨wo, rfl⟩ : ∃ wo : World, wo = wr := ⟨_, rfl⟩
          go_wp2_with fail
          go_loopw [11] (fun i wr => ∃ j : Nat, j ≤ ws.length ∧ i = .int .i64 j ∧ Ext w2 wr) (fun i _ => ws.length - (intOf i).toNat)
          case atStart => exact ⟨0, Nat.zero_le _, rfl, hext.out⟩
          case round =>
            obtain ⟨j, hj, rfl, hext⟩ := hrel
            replace hext := Lib.hid hext
            by_cases hjl : j < ws.length
            · have hN : wr.heap.size ≤ wr.heap.size := Nat.le_refl _
              obtain ⟨b2, o2, mv, rfl, hwn, hwm, hwr, _⟩ := hc.out j hjl
              obtain ⟨b3, o3, rfl, hcn⟩ := hd.out k hlt
              have hXw := Lib.hid (hE2.out.trans hext.out)
              replace hwn := hXw.out.cell hwn
              replace hwm := hXw.out.cell hwm
              replace hcn := hXw.out.cell hcn
              have hb2 : b2 < wr.heap.size := World.block_lt_of_cell? wr _ hwn
              have hb3 : b3 < wr.heap.size := World.block_lt_of_cell? wr _ hcn
              have hrr := Lib.hid (hwr.ext hXw.out)
              have hRaj := Lib.hid (hRa.out.ext hext.out)
              have hRbj := Lib.hid (hRb.out.ext hext.out)
              have i0 : (0 : Int) ≤ (k : Int) := by omega
              have i2 : (0 : Int) ≤ (j : Int) := by omega
              have i3 : (j : Int) < (ws.length : Int) := by omega
              have i4 : (k : Int) < (needs.length : Int) := by omega
              clear hwr
              cases hcan : memI needs[k] ws[j].mach with
              | false =>
                replace hcan := Lib.hid hcan
                have hcl : ∀ W', RdI W' mv ws[j].mach → Calls Try.prog 13 #[.agg #[.string ws[j].name, mv], .int .i64 needs[k]] W' fun e w' => e = .returned (.bool false) ∧ Ext W' w' := fun W' h => by have := c_can ws[j].name mv needs[k] ws[j].mach W' h; rwa [hcan.out] at this
                go_wp2_with fail
                refine wp_region_held_drew (S := fun w' => (∀ b o, b < wr.heap.size → w'.cell? ⟨b, o, none⟩ = wr.cell? ⟨b, o, none⟩) ∧ Kp wr.heap.size wr w') (by kernel_rfl) ((Kp.start hN).drew.both) (fun hHeld => ?_)
                refine wpAnyH_take (i := 0) (oi := ⟨some 81, _, _, _, _, _⟩) (v := ?_) rfl (by kernel_rfl) (by kernel_rfl) (by kernel_rfl) (fun _ _ _ h => h) (Or.inl ⟨by rfl, ?_⟩) hHeld ?_
                rotate_left
                · intro w hSw; go_simp; try with_reducible rfl
                try simp only [Act.put, List.setIfInBounds_toArray, List.set_cons_zero, List.set_cons_succ]
                refine wpAnyH_take (i := 1) (oi := ⟨some 82, _, _, _, _, _⟩) (v := ?_) rfl (by kernel_rfl) (by kernel_rfl) (by kernel_rfl) (fun _ _ _ h => h) (Or.inl ⟨by rfl, ?_⟩) hHeld ?_
                rotate_left
                · intro w hSw; go_simp; try with_reducible rfl
                try simp only [Act.put, List.setIfInBounds_toArray, List.set_cons_zero, List.set_cons_succ]
                refine wpAnyH_take (i := 2) (oi := ⟨some 83, _, _, _, _, _⟩) (v := ?_) rfl (by kernel_rfl) (by kernel_rfl) (by kernel_rfl) (fun _ _ _ h => h) (Or.inl ⟨by rfl, ?_⟩) hHeld ?_
                rotate_left
                · intro w hSw; go_simp; try with_reducible rfl
                try simp only [Act.put, List.setIfInBounds_toArray, List.set_cons_zero, List.set_cons_succ]
                refine wpAnyH_take (i := 3) (oi := ⟨some 84, _, _, _, _, _⟩) (v := ?_) rfl (by kernel_rfl) (by kernel_rfl) (by kernel_rfl) (fun _ _ _ h => h) (Or.inl ⟨by rfl, ?_⟩) hHeld ?_
                rotate_left
                · intro w hSw; go_simp; try with_reducible rfl
                try simp only [Act.put, List.setIfInBounds_toArray, List.set_cons_zero, List.set_cons_succ]
                refine wpAnyH_take (i := 4) (oi := ⟨some 85, _, _, _, _, _⟩) (v := ?_) rfl (by kernel_rfl) (by kernel_rfl) (by kernel_rfl) (fun _ _ _ h => h) (Or.inl ⟨by rfl, ?_⟩) hHeld ?_
                rotate_left
                · intro w hSw; go_simp; try with_reducible rfl
                try simp only [Act.put, List.setIfInBounds_toArray, List.set_cons_zero, List.set_cons_succ]
                refine wpAnyH_take (i := 5) (oi := ⟨some 86, _, _, _, _, _⟩) (v := ?_) rfl (by kernel_rfl) (by kernel_rfl) (by kernel_rfl) (fun _ _ _ h => h) (Or.inl ⟨by rfl, ?_⟩) hHeld ?_
                rotate_left
                · intro w hSw; go_simp; try with_reducible rfl
                try simp only [Act.put, List.setIfInBounds_toArray, List.set_cons_zero, List.set_cons_succ]
                refine wpAnyH_take (i := 6) (oi := ⟨some 87, _, _, _, _, _⟩) (v := ?_) rfl (by kernel_rfl) (by kernel_rfl) (by kernel_rfl) (fun _ _ _ h => h) (Or.inl ⟨by rfl, ?_⟩) hHeld ?_
                rotate_left
                · intro w hSw; go_simp; try with_reducible rfl
                try simp only [Act.put, List.setIfInBounds_toArray, List.set_cons_zero, List.set_cons_succ]
                refine wpAnyH_take (i := 7) (oi := ⟨some 88, _, _, _, _, _⟩) (v := ?_) rfl (by kernel_rfl) (by kernel_rfl) (by kernel_rfl) (fun _ _ _ h => h) (Or.inl ⟨by rfl, ?_⟩) hHeld ?_
                rotate_left
                · intro w hSw; go_simp; try with_reducible rfl
                try simp only [Act.put, List.setIfInBounds_toArray, List.set_cons_zero, List.set_cons_succ]
                refine wpAnyH_ready (rs := [8]) (by kernel_rfl) (by simp) (AllReadyH.cons (o := ⟨some 89, _, _, _, _, _⟩) rfl (fun K hK => ?_) AllReadyH.nil)
                go_simp
                refine ((hcl _ (hrr.out.ext (hHeld.2.ext (Ext.refl _) (Nat.le_refl _))))).mono ?_
                rintro e w2 ⟨rfl, he⟩
                go_wp2_with fail
                refine hK.out _ _ ((hHeld.2.call he).both) (fun hHeld => ?_)
                clear hK K
                try simp only [Act.put, List.setIfInBounds_toArray, List.set_cons_zero, List.set_cons_succ]
                refine wpAnyH_take (i := 9) (oi := ⟨some 90, _, _, _, _, _⟩) (v := .bool false) rfl (by kernel_rfl) (by kernel_rfl) (by kernel_rfl) (fun _ _ _ h => h) (Or.inl ⟨by rfl, by intro w hSw; go_simp⟩) hHeld ?_
                try simp only [Act.put, List.setIfInBounds_toArray, List.set_cons_zero, List.set_cons_succ]
                refine wpAnyH_take (i := 10) (oi := ⟨some 91, _, _, _, _, _⟩) (v := undef) rfl (by kernel_rfl) (by kernel_rfl) (by kernel_rfl) (fun _ _ _ h => h) (Or.inr ⟨by kernel_rfl, rfl⟩) hHeld ?_
                try simp only [Act.put, List.setIfInBounds_toArray, List.set_cons_zero, List.set_cons_succ]
                refine wpAnyH_take (i := 11) (oi := ⟨some 92, _, _, _, _, _⟩) (v := undef) rfl (by kernel_rfl) (by kernel_rfl) (by kernel_rfl) (fun _ _ _ h => h) (Or.inr ⟨by kernel_rfl, rfl⟩) hHeld ?_
                try simp only [Act.put, List.setIfInBounds_toArray, List.set_cons_zero, List.set_cons_succ]
                refine wpAnyH_take (i := 12) (oi := ⟨some 93, _, _, _, _, _⟩) (v := undef) rfl (by kernel_rfl) (by kernel_rfl) (by kernel_rfl) (fun _ _ _ h => h) (Or.inr ⟨by kernel_rfl, rfl⟩) hHeld ?_
                try simp only [Act.put, List.setIfInBounds_toArray, List.set_cons_zero, List.set_cons_succ]
                refine wpAnyH_take (i := 13) (oi := ⟨some 94, _, _, _, _, _⟩) (v := undef) rfl (by kernel_rfl) (by kernel_rfl) (by kernel_rfl) (fun _ _ _ h => h) (Or.inr ⟨by kernel_rfl, rfl⟩) hHeld ?_
                try simp only [Act.put, List.setIfInBounds_toArray, List.set_cons_zero, List.set_cons_succ]
                refine wpAnyH_take (i := 14) (oi := ⟨some 95, _, _, _, _, _⟩) (v := .bool false) rfl (by kernel_rfl) (by kernel_rfl) (by kernel_rfl) (fun _ _ _ h => h) (Or.inl ⟨by rfl, by intro w hSw; go_simp⟩) hHeld ?_
                try simp only [Act.put, List.setIfInBounds_toArray, List.set_cons_zero, List.set_cons_succ]
                refine wpAnyH_take (i := 15) (oi := ⟨some 96, _, _, _, _, _⟩) (v := .bool false) rfl (by kernel_rfl) (by kernel_rfl) (by kernel_rfl) (fun _ _ _ h => h) (Or.inl ⟨by rfl, by intro w hSw; go_simp⟩) hHeld ?_
                try simp only [Act.put, List.setIfInBounds_toArray, List.set_cons_zero, List.set_cons_succ]
                refine wpAnyH_take (i := 16) (oi := ⟨some 97, _, _, _, _, _⟩) (v := undef) rfl (by kernel_rfl) (by kernel_rfl) (by kernel_rfl) (fun _ _ _ h => h) (Or.inr ⟨by kernel_rfl, rfl⟩) hHeld ?_
                try simp only [Act.put, List.setIfInBounds_toArray, List.set_cons_zero, List.set_cons_succ]
                refine wpAnyH_take (i := 17) (oi := ⟨some 98, _, _, _, _, _⟩) (v := undef) rfl (by kernel_rfl) (by kernel_rfl) (by kernel_rfl) (fun _ _ _ h => h) (Or.inr ⟨by kernel_rfl, rfl⟩) hHeld ?_
                try simp only [Act.put, List.setIfInBounds_toArray, List.set_cons_zero, List.set_cons_succ]
                refine wpAnyH_take (i := 18) (oi := ⟨some 99, _, _, _, _, _⟩) (v := undef) rfl (by kernel_rfl) (by kernel_rfl) (by kernel_rfl) (fun _ _ _ h => h) (Or.inr ⟨by kernel_rfl, rfl⟩) hHeld ?_
                try simp only [Act.put, List.setIfInBounds_toArray, List.set_cons_zero, List.set_cons_succ]
                refine wpAnyH_take (i := 19) (oi := ⟨some 100, _, _, _, _, _⟩) (v := undef) rfl (by kernel_rfl) (by kernel_rfl) (by kernel_rfl) (fun _ _ _ h => h) (Or.inr ⟨by kernel_rfl, rfl⟩) hHeld ?_
                try simp only [Act.put, List.setIfInBounds_toArray, List.set_cons_zero, List.set_cons_succ]
                refine wpAnyH_take (i := 20) (oi := ⟨some 101, _, _, _, _, _⟩) (v := .bool false) rfl (by kernel_rfl) (by kernel_rfl) (by kernel_rfl) (fun _ _ _ h => h) (Or.inl ⟨by rfl, by intro w hSw; go_simp⟩) hHeld ?_
                try simp only [Act.put, List.setIfInBounds_toArray, List.set_cons_zero, List.set_cons_succ]
                refine wpAnyH_done (by kernel_rfl) ?_ _
                go_wp2_with fail
                go_roundw
                case rel => exact ⟨j + 1, by omega, by go_num, hext.out.drew.trans he⟩
                case measure => simp [intOf]; omega
              | true =>
                have hor := Lib.hid (hcov.out k hlt j hjl hcan)
                replace hcan := Lib.hid hcan
                cases hma : memI (j : Int) C.1 with
                | true =>
                  replace hma := Lib.hid hma
                  clear hor
                  have hcl : ∀ W', RdI W' mv ws[j].mach → Calls Try.prog 13 #[.agg #[.string ws[j].name, mv], .int .i64 needs[k]] W' fun e w' => e = .returned (.bool true) ∧ Ext W' w' := fun W' h => by have := c_can ws[j].name mv needs[k] ws[j].mach W' h; rwa [hcan.out] at this
                  have hcm : ∀ W', RdI W' (.slice Aa C.1.length capa) C.1 → Calls Try.prog 23 #[.slice Aa C.1.length capa, .int .i64 j] W' fun e w' => e = .returned (.bool true) ∧ W' = w' := fun W' h => by have := c_among _ j C.1 W' h; rwa [hma.out] at this
                  go_wp2_with fail
                  refine wp_region_held_drew (S := fun w' => (∀ b o, b < wr.heap.size → w'.cell? ⟨b, o, none⟩ = wr.cell? ⟨b, o, none⟩) ∧ Kp wr.heap.size wr w') (by kernel_rfl) ((Kp.start hN).drew.both) (fun hHeld => ?_)
                  refine wpAnyH_take (i := 0) (oi := ⟨some 81, _, _, _, _, _⟩) (v := ?_) rfl (by kernel_rfl) (by kernel_rfl) (by kernel_rfl) (fun _ _ _ h => h) (Or.inl ⟨by rfl, ?_⟩) hHeld ?_
                  rotate_left
                  · intro w hSw; go_simp; try with_reducible rfl
                  try simp only [Act.put, List.setIfInBounds_toArray, List.set_cons_zero, List.set_cons_succ]
                  refine wpAnyH_take (i := 1) (oi := ⟨some 82, _, _, _, _, _⟩) (v := ?_) rfl (by kernel_rfl) (by kernel_rfl) (by kernel_rfl) (fun _ _ _ h => h) (Or.inl ⟨by rfl, ?_⟩) hHeld ?_
                  rotate_left
                  · intro w hSw; go_simp; try with_reducible rfl
                  try simp only [Act.put, List.setIfInBounds_toArray, List.set_cons_zero, List.set_cons_succ]
                  refine wpAnyH_take (i := 2) (oi := ⟨some 83, _, _, _, _, _⟩) (v := ?_) rfl (by kernel_rfl) (by kernel_rfl) (by kernel_rfl) (fun _ _ _ h => h) (Or.inl ⟨by rfl, ?_⟩) hHeld ?_
                  rotate_left
                  · intro w hSw; go_simp; try with_reducible rfl
                  try simp only [Act.put, List.setIfInBounds_toArray, List.set_cons_zero, List.set_cons_succ]
                  refine wpAnyH_take (i := 3) (oi := ⟨some 84, _, _, _, _, _⟩) (v := ?_) rfl (by kernel_rfl) (by kernel_rfl) (by kernel_rfl) (fun _ _ _ h => h) (Or.inl ⟨by rfl, ?_⟩) hHeld ?_
                  rotate_left
                  · intro w hSw; go_simp; try with_reducible rfl
                  try simp only [Act.put, List.setIfInBounds_toArray, List.set_cons_zero, List.set_cons_succ]
                  refine wpAnyH_take (i := 4) (oi := ⟨some 85, _, _, _, _, _⟩) (v := ?_) rfl (by kernel_rfl) (by kernel_rfl) (by kernel_rfl) (fun _ _ _ h => h) (Or.inl ⟨by rfl, ?_⟩) hHeld ?_
                  rotate_left
                  · intro w hSw; go_simp; try with_reducible rfl
                  try simp only [Act.put, List.setIfInBounds_toArray, List.set_cons_zero, List.set_cons_succ]
                  refine wpAnyH_take (i := 5) (oi := ⟨some 86, _, _, _, _, _⟩) (v := ?_) rfl (by kernel_rfl) (by kernel_rfl) (by kernel_rfl) (fun _ _ _ h => h) (Or.inl ⟨by rfl, ?_⟩) hHeld ?_
                  rotate_left
                  · intro w hSw; go_simp; try with_reducible rfl
                  try simp only [Act.put, List.setIfInBounds_toArray, List.set_cons_zero, List.set_cons_succ]
                  refine wpAnyH_take (i := 6) (oi := ⟨some 87, _, _, _, _, _⟩) (v := ?_) rfl (by kernel_rfl) (by kernel_rfl) (by kernel_rfl) (fun _ _ _ h => h) (Or.inl ⟨by rfl, ?_⟩) hHeld ?_
                  rotate_left
                  · intro w hSw; go_simp; try with_reducible rfl
                  try simp only [Act.put, List.setIfInBounds_toArray, List.set_cons_zero, List.set_cons_succ]
                  refine wpAnyH_take (i := 7) (oi := ⟨some 88, _, _, _, _, _⟩) (v := ?_) rfl (by kernel_rfl) (by kernel_rfl) (by kernel_rfl) (fun _ _ _ h => h) (Or.inl ⟨by rfl, ?_⟩) hHeld ?_
                  rotate_left
                  · intro w hSw; go_simp; try with_reducible rfl
                  try simp only [Act.put, List.setIfInBounds_toArray, List.set_cons_zero, List.set_cons_succ]
                  refine wpAnyH_ready (rs := [8]) (by kernel_rfl) (by simp) (AllReadyH.cons (o := ⟨some 89, _, _, _, _, _⟩) rfl (fun K hK => ?_) AllReadyH.nil)
                  go_simp
                  refine ((hcl _ (hrr.out.ext (hHeld.2.ext (Ext.refl _) (Nat.le_refl _))))).mono ?_
                  rintro e w2 ⟨rfl, he⟩
                  go_wp2_with fail
                  refine hK.out _ _ ((hHeld.2.call he).both) (fun hHeld => ?_)
                  clear hK K
                  try simp only [Act.put, List.setIfInBounds_toArray, List.set_cons_zero, List.set_cons_succ]
                  refine wpAnyH_take (i := 9) (oi := ⟨some 90, _, _, _, _, _⟩) (v := .bool true) rfl (by kernel_rfl) (by kernel_rfl) (by kernel_rfl) (fun _ _ _ h => h) (Or.inl ⟨by rfl, by intro w hSw; go_simp⟩) hHeld ?_
                  try simp only [Act.put, List.setIfInBounds_toArray, List.set_cons_zero, List.set_cons_succ]
                  refine wpAnyH_take (i := 10) (oi := ⟨some 91, _, _, _, _, _⟩) (v := ?_) rfl (by kernel_rfl) (by kernel_rfl) (by kernel_rfl) (fun _ _ _ h => h) (Or.inl ⟨by rfl, ?_⟩) hHeld ?_
                  rotate_left
                  · intro w hSw; go_simp; try with_reducible rfl
                  try simp only [Act.put, List.setIfInBounds_toArray, List.set_cons_zero, List.set_cons_succ]
                  refine wpAnyH_take (i := 11) (oi := ⟨some 92, _, _, _, _, _⟩) (v := ?_) rfl (by kernel_rfl) (by kernel_rfl) (by kernel_rfl) (fun _ _ _ h => h) (Or.inl ⟨by rfl, ?_⟩) hHeld ?_
                  rotate_left
                  · intro w hSw; go_simp; try with_reducible rfl
                  try simp only [Act.put, List.setIfInBounds_toArray, List.set_cons_zero, List.set_cons_succ]
                  refine wpAnyH_ready (rs := [12]) (by kernel_rfl) (by simp) (AllReadyH.cons (o := ⟨some 93, _, _, _, _, _⟩) rfl (fun K hK => ?_) AllReadyH.nil)
                  go_simp
                  refine ((hcm _ (hRaj.out.ext (hHeld.2.ext (Ext.refl _) (Nat.le_refl _))))).mono ?_
                  rintro e w3 ⟨rfl, rfl⟩
                  go_wp2_with fail
                  refine hK.out _ _ (hHeld) (fun hHeld => ?_)
                  clear hK K
                  try simp only [Act.put, List.setIfInBounds_toArray, List.set_cons_zero, List.set_cons_succ]
                  refine wpAnyH_take (i := 13) (oi := ⟨some 94, _, _, _, _, _⟩) (v := .bool false) rfl (by kernel_rfl) (by kernel_rfl) (by kernel_rfl) (fun _ _ _ h => h) (Or.inl ⟨by rfl, by intro w hSw; go_simp⟩) hHeld ?_
                  try simp only [Act.put, List.setIfInBounds_toArray, List.set_cons_zero, List.set_cons_succ]
                  refine wpAnyH_take (i := 14) (oi := ⟨some 95, _, _, _, _, _⟩) (v := .bool false) rfl (by kernel_rfl) (by kernel_rfl) (by kernel_rfl) (fun _ _ _ h => h) (Or.inl ⟨by rfl, by intro w hSw; go_simp⟩) hHeld ?_
                  try simp only [Act.put, List.setIfInBounds_toArray, List.set_cons_zero, List.set_cons_succ]
                  refine wpAnyH_take (i := 15) (oi := ⟨some 96, _, _, _, _, _⟩) (v := .bool false) rfl (by kernel_rfl) (by kernel_rfl) (by kernel_rfl) (fun _ _ _ h => h) (Or.inl ⟨by rfl, by intro w hSw; go_simp⟩) hHeld ?_
                  try simp only [Act.put, List.setIfInBounds_toArray, List.set_cons_zero, List.set_cons_succ]
                  refine wpAnyH_take (i := 16) (oi := ⟨some 97, _, _, _, _, _⟩) (v := undef) rfl (by kernel_rfl) (by kernel_rfl) (by kernel_rfl) (fun _ _ _ h => h) (Or.inr ⟨by kernel_rfl, rfl⟩) hHeld ?_
                  try simp only [Act.put, List.setIfInBounds_toArray, List.set_cons_zero, List.set_cons_succ]
                  refine wpAnyH_take (i := 17) (oi := ⟨some 98, _, _, _, _, _⟩) (v := undef) rfl (by kernel_rfl) (by kernel_rfl) (by kernel_rfl) (fun _ _ _ h => h) (Or.inr ⟨by kernel_rfl, rfl⟩) hHeld ?_
                  try simp only [Act.put, List.setIfInBounds_toArray, List.set_cons_zero, List.set_cons_succ]
                  refine wpAnyH_take (i := 18) (oi := ⟨some 99, _, _, _, _, _⟩) (v := undef) rfl (by kernel_rfl) (by kernel_rfl) (by kernel_rfl) (fun _ _ _ h => h) (Or.inr ⟨by kernel_rfl, rfl⟩) hHeld ?_
                  try simp only [Act.put, List.setIfInBounds_toArray, List.set_cons_zero, List.set_cons_succ]
                  refine wpAnyH_take (i := 19) (oi := ⟨some 100, _, _, _, _, _⟩) (v := undef) rfl (by kernel_rfl) (by kernel_rfl) (by kernel_rfl) (fun _ _ _ h => h) (Or.inr ⟨by kernel_rfl, rfl⟩) hHeld ?_
                  try simp only [Act.put, List.setIfInBounds_toArray, List.set_cons_zero, List.set_cons_succ]
                  refine wpAnyH_take (i := 20) (oi := ⟨some 101, _, _, _, _, _⟩) (v := .bool false) rfl (by kernel_rfl) (by kernel_rfl) (by kernel_rfl) (fun _ _ _ h => h) (Or.inl ⟨by rfl, by intro w hSw; go_simp⟩) hHeld ?_
                  try simp only [Act.put, List.setIfInBounds_toArray, List.set_cons_zero, List.set_cons_succ]
                  refine wpAnyH_done (by kernel_rfl) ?_ _
                  go_wp2_with fail
                  go_roundw
                  case rel => exact ⟨j + 1, by omega, by go_num, hext.out.drew.trans he⟩
                  case measure => simp [intOf]; omega
                | false =>
                  have hmb := Lib.hid (hor.out.resolve_left (by rw [hma]; simp))
                  replace hma := Lib.hid hma
                  clear hor
                  go_wp2_with fail
                  go_region_held3 (fun w' => (∀ b o, b < wr.heap.size → w'.cell? ⟨b, o, none⟩ = wr.cell? ⟨b, o, none⟩) ∧ Kp wr.heap.size wr w')
                    (first
                      | exact (Kp.start hN).drew.both
                      | (go_split_ands; exact ((by assumption : Kp _ _ _).call he).both)
                      | assumption)
                    (first
                      | (go_at_call 13; go_split_ands; have hcl := c_can ws[j].name _ needs[k] ws[j].mach _ (hrr.out.ext ((by assumption : Kp _ _ _).ext (Ext.refl _) (Nat.le_refl _))); rw [hcan.out] at hcl; refine hcl.mono ?_; rintro e w2 ⟨rfl, he⟩; clear hcl)
                      | (go_at_call 23; go_split_ands; have hcl := c_among (.slice Aa C.1.length capa) j C.1 _ (hRaj.out.ext ((by assumption : Kp _ _ _).ext (Ext.refl _) (Nat.le_refl _))); rw [hma.out] at hcl; (with_reducible refine hcl.mono ?_); rintro e w3 ⟨rfl, rfl⟩; clear hcl)
                      | (go_at_call 23; go_split_ands; have hcl := c_among (.slice Ab C.2.length capb) k C.2 _ (hRbj.out.ext ((by assumption : Kp _ _ _).ext (Ext.refl _) (Nat.le_refl _))); rw [hmb.out] at hcl; (with_reducible refine hcl.mono ?_); rintro e w3 ⟨rfl, rfl⟩; clear hcl))
                  go_wp2_with fail
                  go_roundw
                  case rel => exact ⟨j + 1, by omega, by go_num, hext.out.drew.trans he⟩
                  case measure => simp [intOf]; omega
            · go_wp2_with fail
              go_roundw
              case rel => exact ⟨k + 1, by omega, by go_num, hext.out⟩
              case measure => simp [intOf]; omega
        · go_wp2_with fail
          refine (c_alive _).mono ?_
          rintro e w3 ⟨rfl, he⟩
          replace he := Lib.hid he
          go_wp2_with fail
          go_ret
          exact ⟨rfl, (hE2.out.trans hext.out).trans he.out⟩
    · have hE0 : (askE ws needs != 0) = true := by simp [h0]
      have hE1 : (askE ws needs != askE ws needs) = false := by simp
      obtain ⟨hn1, hn2, hn3⟩ := cvL_err h0
      rw [hn1] at *
      rw [hn2] at *
      rw [hn3] at *
      clear h0 hn1 hn2 hn3
      go_wp2_with fail
      refine (c_alive _).mono ?_
      rintro e w3 ⟨rfl, he⟩
      replace he := Lib.hid he
      go_wp2_with fail
      go_ret
      exact ⟨rfl, hE2.out.trans he.out⟩
end Go.Proofs.Ythfcllefmeoicaa
