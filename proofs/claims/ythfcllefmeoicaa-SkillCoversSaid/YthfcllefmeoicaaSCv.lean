/- The contract of the reference's Cover; SkillCovers walked. -/
import Derived.Test.YthfcllefmeoicaaRCov
namespace Go.Proofs.Ythfcllefmeoicaa
open Go.RowKit
attribute [local go_sem ↓] Go.wp_at_zero Go.wp_at_succ

theorem memC_more (c : Nat → Bool) (n : Nat) (h : ∀ i, n ≤ i → c i = false) : ∀ m, n ≤ m → memC c m = memC c n
  | 0, hm => by rw [Nat.le_zero.1 hm]
  | m + 1, hm => by
    by_cases e : n = m + 1
    · rw [e]
    · rw [memC_succ, h m (by omega)]
      exact memC_more c n h m (by omega)
theorem members_eq (n b : Nat) (hn : n ≤ 12) : memC (bitC n b) n = memC (bitC n b) 12 :=
  (memC_more (bitC n b) n (fun i hi => by unfold bitC; simp; omega) 12 hn).symm
theorem tbl_first (cs : List (Nat → Bool)) (n : Nat) : tbl cs n 0 0 = larg cs (fun _ => false) := by
  unfold tbl
  have : bitC n 0 = fun _ => false := by funext i; unfold bitC; simp
  rw [this, List.drop_zero]

set_option maxRecDepth 100000 in
set_option maxHeartbeats 2000000 in
theorem c_refCover (v u : Value) (ws : List Wk) (needs : List Int) (w : World) (h : RdW w v ws) (g : RdI w u needs) :
    Calls Try.prog 21 #[v, u] w fun e w' => ∃ r s, e = .returned (.tuple #[r, s, .int .i64 (askE ws needs)]) ∧ RdI w' r (cvL ws needs).1 ∧ RdI w' s (cvL ws needs).2 ∧ Ext w w' := by
  by_cases h0 : ¬ askE ws needs = 0
  · have hE : (askE ws needs != 0) = true := by simp [h0]
    have hh := Lib.hid h
    have gg := Lib.hid g
    have h0 := Lib.hid h0
    go_enter Try.func21, Try.ntmps21
    go_wp2_with fail
    refine (c_asked _ _ ws needs _ hh.out gg.out).mono ?_
    rintro e wa ⟨rfl, hea⟩
    have hea := Lib.hid hea
    go_wp2_with fail
    go_ret3
    exact ⟨_, _, rfl, by unfold cvL; rw [if_neg h0.out]; exact RdI.nil _, by unfold cvL; rw [if_neg h0.out]; exact RdI.nil _, hea.out⟩
  replace h0 := Decidable.of_not_not h0
  obtain ⟨_, h12, h16, _⟩ := askE_ok h0
  have hh := Lib.hid h
  have gg := Lib.hid g
  obtain ⟨A, cap, rfl, hcap, hmax, hc⟩ := h
  unfold maxLen at hmax
  clear hc g
  have hE : (askE ws needs != 0) = false := by simp [h0]
  have hcv := Lib.hid (show cvL ws needs = (covM (setsW ws needs) ws.length (2 ^ ws.length)).2 by unfold cvL; rw [if_pos h0])
  rw [h0] at hE ⊢
  have hlen := Lib.hid (setsW_len ws needs)
  obtain ⟨N, hN, hN12, hpw⟩ := pow_wrap ws.length h12
  replace hN := Lib.hid hN
  have hask := Lib.hid h0
  have hleft := Lib.hid (fun (b : Nat) (hb : b ≤ 4096) (W : World) (h : Ext w W) => c_left (.slice A ws.length cap) u ws needs b W (hh.out.ext h) (gg.out.ext h) h12 h16 hb)
  clear h0
  go_enter Try.func21, Try.ntmps21
  go_wp2_with fail
  refine (c_asked _ _ ws needs _ hh.out gg.out).mono ?_
  rintro e wa ⟨rfl, hea⟩
  rw [hask.out]
  replace hea := Lib.hid hea
  go_wp2_with fail
  refine (c_table _ _ ws needs _ (hh.out.ext hea.out) (gg.out.ext hea.out) h12 h16).mono ?_
  rintro e w1 ⟨tv, rfl, htab, he1⟩
  have hX1 := Lib.hid (hea.out.trans he1)
  clear he1 hea
  generalize setsW ws needs = cs at *
  obtain ⟨gt, htv⟩ : ∃ gt, tv = .slice (some ⟨gt, 0, none⟩) (needs.length + 1) (needs.length + 1) := by
    obtain ⟨gt, e, _⟩ := htab; rw [hlen.out] at e; exact ⟨gt, e⟩
  subst htv
  obtain ⟨c0, p0, cap0, hr0, hrow0⟩ := TabOk.row hlen.out htab hN.out (show 0 ≤ needs.length by omega)
  have hN0 : 0 < N := by have := hN.out; have := Nat.two_pow_pos ws.length; omega
  have hrS := hrow0 0 hN0
  rw [tbl_first, Nat.add_zero] at hrS
  clear hrow0 htab
  have i0 : (0 : Int) < (N : Int) := by omega
  have i1 : (0 : Int) < (needs.length : Int) + 1 := by omega
  have hl3 : larg cs (fun _ => false) ≤ 16 := by have := largM_le cs (fun _ => false) cs.length; unfold larg; rw [hlen.out] at this ⊢; omega
  go_wp2_with fail
  clear hr0 hrS i0 i1 hN0
  go_loopw [9, 10, 11, 12, 13, 14] (fun r s f i u13 u14 wr => ∃ b : Nat, b ≤ N ∧ i = .int .i64 b ∧ f = .bool (covM cs ws.length b).1 ∧ RdI wr r (covM cs ws.length b).2.1 ∧ RdI wr s (covM cs ws.length b).2.2 ∧ Ext w1 wr) (fun _ _ _ i _ _ _ => N - (intOf i).toNat)
  case atStart => exact ⟨0, by omega, rfl, rfl, RdI.nil _, RdI.nil _, Ext.refl _⟩
  case round =>
    obtain ⟨b, hb, rfl, rfl, hRr, hRs, hext⟩ := hrel
    replace hRr := Lib.hid hRr
    replace hRs := Lib.hid hRs
    replace hext := Lib.hid hext
    by_cases hlt : b < N
    · have hb4 : b ≤ 4096 := by omega
      have hltI : (b : Int) < (N : Int) := by omega
      obtain ⟨wo, rfl⟩ : ∃ wo : World, wo = wr := ⟨_, rfl⟩
      go_wp2_with fail
      refine (c_members b ws.length _ hb4 h12).mono ?_
      rintro e w2 ⟨ra, rfl, hRa, hE2⟩
      rw [members_eq _ _ h12] at hRa
      replace hRa := Lib.hid hRa
      have hX2 := Lib.hid ((hX1.out.trans hext.out).trans hE2)
      replace hE2 := Lib.hid hE2
      go_wp2_with fail
      refine (hleft.out b hb4 _ hX2.out).mono ?_
      rintro e w3 ⟨rb, rfl, hRb, hE3⟩
      rw [← hlen.out] at hRb
      replace hRa := Lib.hid (hRa.out.ext hE3)
      replace hRb := Lib.hid hRb
      have hE23 := Lib.hid (hE2.out.trans hE3)
      have hXX := Lib.hid (hext.out.trans hE23.out)
      clear hE3 hE2
      obtain ⟨Al, capl, rfl⟩ := hRa.out.nat
      obtain ⟨Au, capu, rfl⟩ := hRb.out.nat
      have hl1 := memC_length (bitC ws.length b) 12
      have hl2 : (uncM cs (bitC ws.length b) cs.length).length ≤ 16 := by have := memC_length (fun k => openN cs (bitC ws.length b) k 12) cs.length; unfold uncM; rw [hlen.out] at this ⊢; omega
      have hstep := Lib.hid (show covM cs ws.length (b + 1) = if (memC (bitC ws.length b) 12).length + (uncM cs (bitC ws.length b) cs.length).length = larg cs (fun _ => false) ∧ ((covM cs ws.length b).1 = false ∨ lessI (memC (bitC ws.length b) 12) (covM cs ws.length b).2.1 = true) then (true, memC (bitC ws.length b) 12, uncM cs (bitC ws.length b) cs.length) else covM cs ws.length b by rw [covM])
      have hRr4 := Lib.hid (hRr.out.ext hE23.out)
      have hRs4 := Lib.hid (hRs.out.ext hE23.out)
      by_cases hsz : (memC (bitC ws.length b) 12).length + (uncM cs (bitC ws.length b) cs.length).length = larg cs (fun _ => false)
      · have hsn : (((memC (bitC ws.length b) 12).length : Int) + ((uncM cs (bitC ws.length b) cs.length).length : Int) == (larg cs (fun _ => false) : Nat)) = true := by simp; omega
        replace hsz := Lib.hid hsz
        cases hfd : (covM cs ws.length b).1 with
        | false =>
          have hyes := Lib.hid (show covM cs ws.length (b + 1) = (true, memC (bitC ws.length b) 12, uncM cs (bitC ws.length b) cs.length) by rw [hstep.out, if_pos ⟨hsz.out, Or.inl hfd⟩])
          go_wp2_with fail
          go_roundw
          case rel => exact ⟨b + 1, by omega, by go_num, by rw [hyes.out], by rw [hyes.out]; exact hRa.out, by rw [hyes.out]; exact hRb.out, hXX.out⟩
          case measure => simp [intOf]; omega
        | true =>
          cases hle : lessI (memC (bitC ws.length b) 12) (covM cs ws.length b).2.1 with
          | true =>
            have hyes := Lib.hid (show covM cs ws.length (b + 1) = (true, memC (bitC ws.length b) 12, uncM cs (bitC ws.length b) cs.length) by rw [hstep.out, if_pos ⟨hsz.out, Or.inr hle⟩])
            replace hle := Lib.hid hle
            go_wp2_with fail
            refine (c_less _ _ (memC (bitC ws.length b) 12) (covM cs ws.length b).2.1 _ hRa.out hRr4.out).mono ?_
            rintro e w5 ⟨rfl, hE5⟩
            rw [hle.out]
            replace hE5 := Lib.hid hE5
            go_wp2_with fail
            go_roundw
            case rel => exact ⟨b + 1, by omega, by go_num, by rw [hyes.out], by rw [hyes.out]; exact hRa.out.ext hE5.out, by rw [hyes.out]; exact hRb.out.ext hE5.out, hXX.out.trans hE5.out⟩
            case measure => simp [intOf]; omega
          | false =>
            have hno := Lib.hid (show covM cs ws.length (b + 1) = covM cs ws.length b by rw [hstep.out, if_neg (fun h => by rcases h.2 with h2 | h2; (rw [hfd] at h2; cases h2); (rw [hle] at h2; cases h2))])
            replace hle := Lib.hid hle
            go_wp2_with fail
            refine (c_less _ _ (memC (bitC ws.length b) 12) (covM cs ws.length b).2.1 _ hRa.out hRr4.out).mono ?_
            rintro e w5 ⟨rfl, hE5⟩
            rw [hle.out]
            replace hE5 := Lib.hid hE5
            go_wp2_with fail
            go_roundw
            case rel => exact ⟨b + 1, by omega, by go_num, by rw [hno.out, hfd], by rw [hno.out]; exact hRr4.out.ext hE5.out, by rw [hno.out]; exact hRs4.out.ext hE5.out, hXX.out.trans hE5.out⟩
            case measure => simp [intOf]; omega
      · have hsn : (((memC (bitC ws.length b) 12).length : Int) + ((uncM cs (bitC ws.length b) cs.length).length : Int) == (larg cs (fun _ => false) : Nat)) = false := by simp; omega
        have hno := Lib.hid (show covM cs ws.length (b + 1) = covM cs ws.length b by rw [hstep.out, if_neg (fun h => hsz h.1)])
        clear hsz
        go_wp2_with fail
        go_roundw
        case rel => exact ⟨b + 1, by omega, by go_num, by rw [hno.out], by rw [hno.out]; exact hRr4.out, by rw [hno.out]; exact hRs4.out, hXX.out⟩
        case measure => simp [intOf]; omega
    · have hbN : b = N := by omega
      have hltI : ¬ (b : Int) < (N : Int) := by omega
      go_wp2_with fail
      refine bodyPost_ret (v := .tuple #[u9, u10, .int .i64 0]) (by simp [results, Try.results21, go_sem]) rfl ⟨u9, u10, rfl, ?_, ?_, hX1.out.trans hext.out⟩
      · have h := hRr.out; rw [hbN, hN.out] at h; rw [hcv.out]; exact h
      · have h := hRs.out; rw [hbN, hN.out] at h; rw [hcv.out]; exact h

set_option maxHeartbeats 1000000 in
theorem w_covers (v u : Value) (ws : List Wk) (needs : List Int) (w : World) (h : RdW w v ws) (g : RdI w u needs) :
    Calls Try.prog 5 #[v, u] w fun e w' => e = .returned (.bool true) ∧ Ext w w' := by
  have hh := Lib.hid h
  have gg := Lib.hid g
  cases hL : lightB ws needs.length with
  | false =>
    go_enter Try.func5, Try.ntmps5
    go_wp2_with fail
    refine (c_light _ _ ws needs _ hh.out gg.out).mono ?_
    rintro e w1 ⟨rfl, rfl⟩
    rw [hL]
    go_wp2_with fail
    refine (c_alive _).mono ?_
    rintro e w1 ⟨rfl, he⟩
    replace he := Lib.hid he
    go_wp2_with fail
    go_ret
    exact ⟨rfl, he.out⟩
  | true =>
    go_enter Try.func5, Try.ntmps5
    go_wp2_with fail
    refine (c_light _ _ ws needs _ hh.out gg.out).mono ?_
    rintro e w1 ⟨rfl, rfl⟩
    rw [hL]
    go_wp2_with fail
    refine (c_coverAny _ _ ws needs _ hh.out gg.out).mono ?_
    rintro e w1 ⟨r, s, rfl, hR, hS, _, _, hE⟩
    replace hR := Lib.hid hR
    replace hS := Lib.hid hS
    replace hE := Lib.hid hE
    go_wp2_with fail
    refine (c_refCover _ _ ws needs _ (hh.out.ext hE.out) (gg.out.ext hE.out)).mono ?_
    rintro e w2 ⟨r2, s2, rfl, hR2, hS2, hE2⟩
    replace hR := Lib.hid (hR.out.ext hE2)
    replace hS := Lib.hid (hS.out.ext hE2)
    replace hR2 := Lib.hid hR2
    replace hS2 := Lib.hid hS2
    replace hE2 := Lib.hid (hE.out.trans hE2)
    go_wp2_with fail
    refine (c_same _ _ (cvL ws needs).1 (cvL ws needs).1 _ hR.out hR2.out).mono ?_
    rintro e w3 ⟨rfl, hE3⟩
    rw [show sameI (cvL ws needs).1 (cvL ws needs).1 = true by simp [sameI]]
    replace hS := Lib.hid (hS.out.ext hE3)
    replace hS2 := Lib.hid (hS2.out.ext hE3)
    replace hE3 := Lib.hid (hE2.out.trans hE3)
    go_wp2_with fail
    refine (c_same _ _ (cvL ws needs).2 (cvL ws needs).2 _ hS.out hS2.out).mono ?_
    rintro e w4 ⟨rfl, hE4⟩
    rw [show sameI (cvL ws needs).2 (cvL ws needs).2 = true by simp [sameI]]
    replace hE4 := Lib.hid (hE3.out.trans hE4)
    have hq : (askE ws needs == askE ws needs) = true := by simp
    go_wp2_with fail
    refine (c_alive _).mono ?_
    rintro e w5 ⟨rfl, he⟩
    replace he := Lib.hid (hE4.out.trans he)
    go_wp2_with fail
    go_ret
    exact ⟨rfl, he.out⟩
end Go.Proofs.Ythfcllefmeoicaa
