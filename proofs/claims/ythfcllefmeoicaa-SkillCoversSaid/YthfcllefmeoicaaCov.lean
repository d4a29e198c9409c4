/- Contract of skill.Cover. -/
import Derived.Test.YthfcllefmeoicaaUnc
namespace Go.Proofs.Ythfcllefmeoicaa
open Go.RowKit
attribute [local go_sem ↓] Go.wp_at_zero Go.wp_at_succ

/-- the set of workers that the number spells -/
def bitC (n b : Nat) : Nat → Bool := fun w => decide (w < n) && b.testBit w
/-- after b sets: found, the workers, the places -/
def covM (cs : List (Nat → Bool)) (n : Nat) : Nat → Bool × List Int × List Int
  | 0 => (false, [], [])
  | b + 1 => if (memC (bitC n b) 12).length + (uncM cs (bitC n b) cs.length).length = larg cs (fun _ => false) ∧ ((covM cs n b).1 = false ∨ lessI (memC (bitC n b) 12) (covM cs n b).2.1 = true) then (true, memC (bitC n b) 12, uncM cs (bitC n b) cs.length) else covM cs n b

theorem bitC_step (j b : Nat) : upd (bitC j b) j (b.testBit j) = bitC (j + 1) b := by
  funext i
  unfold upd bitC
  by_cases h : i = j
  · subst h; simp
  · have : decide (i < j + 1) = decide (i < j) := by rw [decide_eq_decide]; omega
    simp only [h, if_false, this]
theorem bitC_zero (b : Nat) : crewA (bitC 0 b) = #[.bool false, .bool false, .bool false, .bool false, .bool false, .bool false, .bool false, .bool false, .bool false, .bool false, .bool false, .bool false] := by
  have : bitC 0 b = fun _ => false := by funext i; simp [bitC]
  rw [this]; rfl
theorem pow_wrap (n : Nat) (h : n ≤ 12) : ∃ N : Nat, N = 2 ^ n ∧ N ≤ 4096 ∧ wrap64 ((2 : Int) ^ n) = (N : Int) := by
  have h1 : 2 ^ n ≤ 2 ^ 12 := Nat.pow_le_pow_right (by omega) h
  refine ⟨2 ^ n, rfl, by omega, ?_⟩
  have h2 : ((2 : Int) ^ n) = ((2 ^ n : Nat) : Int) := by simp
  rw [h2]
  have h3 : ((2 ^ n : Nat) : Int) ≤ 4096 := Int.ofNat_le.2 h1
  have h4 : (0 : Int) ≤ ((2 ^ n : Nat) : Int) := Int.natCast_nonneg _
  generalize ((2 ^ n : Nat) : Int) = x at h3 h4 ⊢
  exact IntWalk.wrap64_in _ (by omega)
theorem and_one_i64 (a : Nat) (ha : a < 4611686018427387904) : bits .and .i64 (a : Int) 1 = ((a % 2 : Nat) : Int) := by
  have h1 : (BitVec.ofInt 64 (a : Int)).toNat = a := by
    rw [BitVec.ofInt_natCast, BitVec.toNat_ofNat]; exact Nat.mod_eq_of_lt (by omega)
  have h2 : (BitVec.ofInt 64 (1 : Int)).toNat = 1 := by decide
  show IntKind.i64.wrap ((BitVec.ofInt 64 (a : Int) &&& BitVec.ofInt 64 (1 : Int)).toNat : Int) = _
  rw [BitVec.toNat_and, h1, h2, Nat.and_one_is_mod]
  exact IntWalk.i64_in _ (by omega)
theorem bit_i64 (b j : Nat) (hb : b ≤ 4096) : (bits BinOp.and IntKind.i64 ((b : Int) / 2 ^ j) 1 != 0) = b.testBit j := by
  have h1 : ((b : Int) / 2 ^ j) = ((b / 2 ^ j : Nat) : Int) := by simp
  have h2 : b / 2 ^ j ≤ b := Nat.div_le_self _ _
  rw [h1, and_one_i64 _ (by omega), Nat.testBit_eq_decide_div_mod_eq]
  rcases Nat.mod_two_eq_zero_or_one (b / 2 ^ j) with h | h <;> rw [h] <;> rfl

set_option maxRecDepth 100000 in
set_option maxHeartbeats 4000000 in
theorem c_cover (v u : Value) (ws : List Wk) (needs : List Int) (w : World) (h : RdW w v ws) (g : RdI w u needs) (h0 : askE ws needs = 0) :
    Calls Try.prog 20 #[v, u] w fun e w' => ∃ r s, e = .returned (.tuple #[r, s, .int .i64 0]) ∧ RdI w' r (covM (setsW ws needs) ws.length (2 ^ ws.length)).2.1 ∧ RdI w' s (covM (setsW ws needs) ws.length (2 ^ ws.length)).2.2 ∧ Fresh w.heap.size r ∧ Fresh w.heap.size s ∧ Ext w w' := by
  obtain ⟨_, h12, h16, _⟩ := askE_ok h0
  have hh := Lib.hid h
  have gg := Lib.hid g
  obtain ⟨A, cap, rfl, hcap, hmax, hd⟩ := h
  unfold maxLen at hmax
  clear hd g
  have hE : (askE ws needs != 0) = false := by simp [h0]
  have hlen := Lib.hid (show (setsW ws needs).length = needs.length by simp [setsW])
  generalize hcs : setsW ws needs = cs at hlen ⊢
  have HCS := Lib.hid hcs
  clear hcs h0
  go_enter Try.func20, Try.ntmps20
  go_wp2_with fail
  refine (c_checkNeeds _ _ ws needs _ hh.out gg.out).mono ?_
  rintro e wa ⟨rfl, hea⟩
  have hea := Lib.hid hea
  go_wp2_with fail
  refine (c_able _ _ ws needs _ (hh.out.ext hea.out) (gg.out.ext hea.out) h12 h16).mono ?_
  rintro e w1 ⟨vs, rfl, hC, hfC, he1⟩
  rw [HCS.out] at hC
  have HC := Lib.hid hC
  have HX1 := Lib.hid (hea.out.trans he1)
  clear he1 hfC hC
  go_wp2_with fail
  refine (c_largest _ cs (fun _ => false) _ HC.out (by rw [hlen.out]; omega)).mono ?_
  rintro e w2 ⟨rfl, he2⟩
  have HC2 := Lib.hid (HC.out.ext he2)
  have HX2 := Lib.hid (HX1.out.trans he2)
  clear he2 HC HX1 hea
  go_wp2_with fail
  obtain ⟨N, hN, hN12, hpw⟩ := pow_wrap ws.length h12
  rw [hpw]
  replace hN := Lib.hid hN
  clear hpw hE
  go_loopw [4, 5, 10, 31] (fun r s f i wr => ∃ b : Nat, b ≤ N ∧ i = .int .i64 b ∧ f = .bool (covM cs ws.length b).1 ∧ RdI wr r (covM cs ws.length b).2.1 ∧ RdI wr s (covM cs ws.length b).2.2 ∧ Fresh w.heap.size r ∧ Fresh w.heap.size s ∧ Ext w2 wr) (fun _ _ _ i _ => N - (intOf i).toNat)
  case atStart => exact ⟨0, by omega, rfl, rfl, RdI.nil _, RdI.nil _, Fresh.nil _ _ _, Fresh.nil _ _ _, Ext.refl _⟩
  case round =>
    obtain ⟨b, hb, rfl, rfl, hRr, hRs, hFr, hFs, hext⟩ := hrel
    replace hRr := Lib.hid hRr
    replace hRs := Lib.hid hRs
    replace hFr := Lib.hid hFr
    replace hFs := Lib.hid hFs
    replace hext := Lib.hid hext
    by_cases hlt : b < N
    · obtain ⟨wo, rfl⟩ : ∃ wo : World, wo = wr := ⟨_, rfl⟩
      go_wp2_with fail
      go_loopw [36] (fun i wx => ∃ j : Nat, j ≤ ws.length ∧ i = .int .i64 j ∧ Blk wx wo.heap.size 58 (crewA (bitC j b)) ∧ Ext wo wx) (fun i _ => ws.length - (intOf i).toNat)
      case atStart => exact ⟨0, by omega, rfl, by rw [bitC_zero]; exact Blk.new _ _ _, (Ext.refl _).alloc _⟩
      case round =>
        obtain ⟨j, hj, rfl, hB, hX⟩ := hrel
        have HB := Lib.hid hB
        replace hX := Lib.hid hX
        by_cases hjl : j < ws.length
        · have hcb := hB.cell j
          rw [crewA_get _ _ (by omega)] at hcb
          have hf := hB.frozen j
          clear hB
          have hbit := Lib.hid (bit_i64 b j (by omega))
          go_wp2_with fail
          go_roundw
          case rel => exact ⟨j + 1, by omega, by go_num, by rw [hbit.out, ← bitC_step, ← crewA_set]; exact HB.out.set_ _ _, hX.out.setCell (Nat.le_refl _) _⟩
          case measure => simp [intOf]; omega
        · have hjn := Lib.hid (show j = ws.length by omega)
          obtain ⟨cc, hcc⟩ : ∃ cc : Nat → Bool, cc = bitC j b := ⟨_, rfl⟩
          rw [← hcc] at HB
          replace hcc := Lib.hid hcc
          clear hB
          go_wp2_with fail
          have hz : wo.heap.size < wr.heap.size := HB.out.lt
          have hrg := Lib.hid (show wr.rangeAt wo.heap.size 0 (crewL cc) by
            intro i v hv; rw [Nat.zero_add, HB.out.cell]; simpa [crewA] using hv)
          have hNN : wr.heap.size ≤ wr.heap.size := Nat.le_refl _
          have hRC := Lib.hid ((HC2.out.ext hext.out).ext hX.out)
          have hdl : cs.length ≤ 1000 := by rw [hlen.out]; omega
          have hu58 := Try.underlying58
          have hi58 : (Try.prog.info? 58).map (·.size) = some (crewL cc).length := by rw [crewL_length]; exact info58
          refine wp_region_held_drew (S := fun w' => w'.rangeAt wo.heap.size 0 (crewL cc) ∧ Kp wr.heap.size wr w') (by kernel_rfl) ((Kp.start hNN).drew.rng hrg.out hz) (fun hHeld => ?_)
          refine wpAnyH_take (i := 0) rfl (by kernel_rfl) (by kernel_rfl) (by kernel_rfl) (fun _ _ _ h => h) (yieldsIf_load_mid (by rfl) _ _ rfl _ _ rfl (crewL cc) _ (fun w hw => hw.1) hu58 rfl hi58) hHeld ?_
          simp only [Act.put, List.setIfInBounds_toArray]
          refine wpAnyH_take (i := 3) rfl (by kernel_rfl) (by kernel_rfl) (by kernel_rfl) (fun _ _ _ h => h) (yieldsIf_load_mid (by rfl) _ _ rfl _ _ rfl (crewL cc) _ (fun w hw => hw.1) hu58 rfl hi58) hHeld ?_
          simp only [Act.put]
          refine wpAnyH_take (i := 2) (v := vs) rfl (by kernel_rfl) (by kernel_rfl) (by kernel_rfl) (fun _ _ _ h => h) (Or.inl ⟨by rfl, by intro w hSw; go_simp⟩) hHeld ?_
          simp only [Act.put]
          refine wpAnyH_ready (rs := [1]) (by kernel_rfl) (by simp) (AllReadyH.cons rfl (fun K hK => ?_) AllReadyH.nil)
          go_simp
          refine (c_list cc _).mono ?_
          rintro e w3 ⟨rl, rfl, hRl, hFl, he3⟩
          replace hRl := Lib.hid hRl
          replace hFl := Lib.hid hFl
          go_wp2_with fail
          refine hK.out _ _ ((hHeld.2.call he3).rng hrg.out hz) (fun hHeld3 => ?_)
          clear hK K
          replace he3 := Lib.hid he3
          clear hHeld
          try simp only [Act.put, List.setIfInBounds_toArray, List.set_cons_zero, List.set_cons_succ]
          refine wpAnyH_ready (rs := [4]) (by kernel_rfl) (by simp) (AllReadyH.cons rfl (fun K hK => ?_) AllReadyH.nil)
          go_simp
          refine (c_uncovered _ cs cc _ (hRC.out.ext (hHeld3.2.ext (Ext.refl _) (Nat.le_refl _))) hdl).mono ?_
          rintro e w4 ⟨ru, rfl, hRu, hFu, he4⟩
          replace hRu := Lib.hid hRu
          replace hFu := Lib.hid hFu
          go_wp2_with fail
          refine hK.out _ _ ((hHeld3.2.call he4).rng hrg.out hz) (fun hHeld4 => ?_)
          clear hK K
          have hX4 := Lib.hid (hHeld4.2.ext (Ext.refl _) (Nat.le_refl _))
          replace he4 := Lib.hid he4
          clear hHeld3
          try simp only [Act.put, List.setIfInBounds_toArray, List.set_cons_zero, List.set_cons_succ]
          refine wpAnyH_take (i := 5) (v := rl) rfl (by kernel_rfl) (by kernel_rfl) (by kernel_rfl) (fun _ _ _ h => h) (Or.inl ⟨by rfl, by intro w hSw; go_simp⟩) hHeld4 ?_
          try simp only [Act.put, List.setIfInBounds_toArray]
          refine wpAnyH_take (i := 6) (v := ru) rfl (by kernel_rfl) (by kernel_rfl) (by kernel_rfl) (fun _ _ _ h => h) (Or.inl ⟨by rfl, by intro w hSw; go_simp⟩) hHeld4 ?_
          try simp only [Act.put]
          refine wpAnyH_done (by kernel_rfl) ?_ _
          obtain ⟨Al, capl, rfl⟩ := hRl.out.nat
          obtain ⟨Au, capu, rfl⟩ := hRu.out.nat
          have hl1 := memC_length cc 12
          have hl2 : (uncM cs cc cs.length).length ≤ 16 := by have := memC_length (fun k => openN cs cc k 12) cs.length; unfold uncM; rw [hlen.out] at this ⊢; omega
          have hl3 : larg cs (fun _ => false) ≤ 16 := by have := largM_le cs (fun _ => false) cs.length; unfold larg; rw [hlen.out] at this ⊢; omega
          clear hHeld4 hrg hRC hdl hi58 hNN hz HB hu58
          have hXX := Lib.hid ((hext.out.trans hX.out).trans hX4.out)
          have hRl' := Lib.hid (hRl.out.ext he4.out)
          have hstep := Lib.hid (show covM cs ws.length (b + 1) = if (memC cc 12).length + (uncM cs cc cs.length).length = larg cs (fun _ => false) ∧ ((covM cs ws.length b).1 = false ∨ lessI (memC cc 12) (covM cs ws.length b).2.1 = true) then (true, memC cc 12, uncM cs cc cs.length) else covM cs ws.length b by rw [covM, hcc.out, hjn.out])
          by_cases hsz : (memC cc 12).length + (uncM cs cc cs.length).length = larg cs (fun _ => false)
          · have hsn : (((memC cc 12).length : Int) + ((uncM cs cc cs.length).length : Int) != (larg cs (fun _ => false) : Nat)) = false := by simp; omega
            have hszH := Lib.hid hsz
            clear hsz
            have hsw : w.heap.size ≤ wr.drew.heap.size := by have h1 := HX2.out.size; have h2 := hext.out.size; have h3 := hX.out.size; show w.heap.size ≤ wr.heap.size; omega
            have hsw3 : w.heap.size ≤ w3.heap.size := by have h1 := he3.out.size; omega
            have hRr4 := Lib.hid (hRr.out.ext (hX.out.trans hX4.out))
            cases hfd : (covM cs ws.length b).1 with
            | false =>
              have hyes := Lib.hid (show covM cs ws.length (b + 1) = (true, memC cc 12, uncM cs cc cs.length) by rw [hstep.out, if_pos ⟨hszH.out, Or.inl hfd⟩])
              go_wp2_with fail
              go_roundw
              case rel => exact ⟨b + 1, by omega, by go_num, by rw [hyes.out], by rw [hyes.out]; exact hRl'.out, by rw [hyes.out]; exact hRu.out, hFl.out.mono hsw, hFu.out.mono hsw3, hXX.out⟩
              case measure => simp [intOf]; omega
            | true =>
              cases hle : lessI (memC cc 12) (covM cs ws.length b).2.1 with
              | true =>
                have hle := Lib.hid hle
                have hyes := Lib.hid (show covM cs ws.length (b + 1) = (true, memC cc 12, uncM cs cc cs.length) by rw [hstep.out, if_pos ⟨hszH.out, Or.inr hle.out⟩])
                go_wp2_with fail
                refine (c_compare _ _ (memC cc 12) (covM cs ws.length b).2.1 _ hRl'.out hRr4.out).mono ?_
                rintro e w5 ⟨r, rfl, hr, hr1, hr2, rfl⟩
                have hrd : decide (r < 0) = true := by rw [hr, hle.out]
                clear hr
                go_wp2_with fail
                go_roundw
                case rel => exact ⟨b + 1, by omega, by go_num, by rw [hyes.out], by rw [hyes.out]; exact hRl'.out, by rw [hyes.out]; exact hRu.out, hFl.out.mono hsw, hFu.out.mono hsw3, hXX.out⟩
                case measure => simp [intOf]; omega
              | false =>
                have hle := Lib.hid hle
                have hno := Lib.hid (show covM cs ws.length (b + 1) = covM cs ws.length b by rw [hstep.out, if_neg (fun h => by rcases h.2 with h2 | h2; (rw [hfd] at h2; cases h2); (rw [hle.out] at h2; cases h2))])
                go_wp2_with fail
                refine (c_compare _ _ (memC cc 12) (covM cs ws.length b).2.1 _ hRl'.out hRr4.out).mono ?_
                rintro e w5 ⟨r, rfl, hr, hr1, hr2, rfl⟩
                have hrd : decide (r < 0) = false := by rw [hr, hle.out]
                clear hr
                go_wp2_with fail
                go_roundw
                case rel => exact ⟨b + 1, by omega, by go_num, by rw [hno.out, hfd], by rw [hno.out]; exact hRr4.out, by rw [hno.out]; exact hRs.out.ext (hX.out.trans hX4.out), hFr.out, hFs.out, hXX.out⟩
                case measure => simp [intOf]; omega
          · have hsn : (((memC cc 12).length : Int) + ((uncM cs cc cs.length).length : Int) != (larg cs (fun _ => false) : Nat)) = true := by simp; omega
            have hno := Lib.hid (show covM cs ws.length (b + 1) = covM cs ws.length b by rw [hstep.out, if_neg (fun h => hsz h.1)])
            clear hsz
            go_wp2_with fail
            go_roundw
            case rel => exact ⟨b + 1, by omega, by go_num, by rw [hno.out], by rw [hno.out]; exact hRr.out.ext (hX.out.trans hX4.out), by rw [hno.out]; exact hRs.out.ext (hX.out.trans hX4.out), hFr.out, hFs.out, hXX.out⟩
            case measure => simp [intOf]; omega
    · have hbN : b = N := by omega
      go_wp2_with fail
      refine bodyPost_ret (v := .tuple #[u4, u5, .int .i64 0]) (by simp [results, Try.results20, go_sem]) rfl ⟨u4, u5, rfl, ?_, ?_, hFr.out, hFs.out, HX2.out.trans hext.out⟩
      · have h := hRr.out; rw [hbN, hN.out] at h; exact h
      · have h := hRs.out; rw [hbN, hN.out] at h; exact h
end Go.Proofs.Ythfcllefmeoicaa
