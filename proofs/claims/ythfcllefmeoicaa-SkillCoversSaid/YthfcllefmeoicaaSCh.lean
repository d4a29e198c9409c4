/- The reference's Check and asked; SkillChecks walked. -/
import Derived.Test.YthfcllefmeoicaaRChk
namespace Go.Proofs.Ythfcllefmeoicaa
open Go.RowKit
attribute [local go_sem ↓] Go.wp_at_zero Go.wp_at_succ

set_option maxHeartbeats 1000000 in
theorem c_refCheck (v : Value) (ws : List Wk) (w : World) (h : RdW w v ws) :
    Calls Try.prog 16 #[v] w fun e w' => e = .returned (.int .i64 (chkW ws)) ∧ Ext w w' := by
  have hh := Lib.hid h
  obtain ⟨A, cap, rfl, hcap, hmax, hc⟩ := h
  unfold maxLen at hmax
  replace hc := Lib.hid hc
  by_cases h12 : 12 < ws.length
  · go_enter Try.func16, Try.ntmps16
    go_wp2
    go_ret
    exact ⟨ret_int (by simp [chkW, h12]), Ext.refl _⟩
  have h12' : decide (12 < (ws.length : Int)) = false := by simp; omega
  have hchk := Lib.hid (show chkW ws = errsW [] ws by simp [chkW, h12])
  go_enter Try.func16, Try.ntmps16
  go_wp2
  go_loopw [3, 4] (fun i u4 wr => ∃ k : Nat, k ≤ ws.length ∧ i = .int .i64 k ∧ Hid (chkW ws = errsW (ws.take k) (ws.drop k)) ∧ Ext w wr) (fun i _ _ => ws.length - (intOf i).toNat)
  case atStart => exact ⟨0, Nat.zero_le _, rfl, hchk, Ext.refl _⟩
  case round =>
    obtain ⟨k, hk, rfl, HK, hext⟩ := hrel
    replace hext := Lib.hid hext
    by_cases hlt : k < ws.length
    · obtain ⟨b, o, mv, rfl, hwn, hwm, hwr, hsz⟩ := hc.out k hlt
      replace hwn := hext.out.cell hwn
      replace hwm := hext.out.cell hwm
      have hb : b < wr.heap.size := World.block_lt_of_cell? wr _ hwn
      obtain ⟨MA, mcap, rfl⟩ := hwr.nat
      have hrr := Lib.hid (hwr.ext hext.out)
      replace hsz := Lib.hid hsz
      have hst := Lib.hid (errsW_step ws k hlt)
      have htk := Lib.hid (rdW_take (hh.out.ext hext.out) k hk)
      have hN : wr.heap.size ≤ wr.heap.size := Nat.le_refl _
      have i0 : (0 : Int) ≤ (k : Int) := by omega
      have i1 : (k : Int) < (ws.length : Int) := by omega
      have i2 : (k : Int) ≤ (cap : Int) := by omega
      clear hwr
      go_wp2_with fail
      go_region_held3 (fun w' => (∀ b o, b < wr.heap.size → w'.cell? ⟨b, o, none⟩ = wr.cell? ⟨b, o, none⟩) ∧ Kp wr.heap.size wr w')
        (first
          | exact (Kp.start hN).drew.both
          | (go_split_ands; exact ((by assumption : Kp _ _ _).call he).both))
        (first
          | (go_at_call 29; go_split_ands; have hx := (by assumption : Kp _ _ _).ext (Ext.refl _) (Nat.le_refl _); refine (c_one _ _ ws[k].name ws[k].mach (ws.take k) _ (htk.out.ext hx) (hrr.out.ext hx) hsz.out).mono ?_; rintro e w1 ⟨rfl, he⟩; clear hx))
      have hE1 := Lib.hid (hext.out.drew.trans he)
      clear he
      by_cases h0 : wkE (ws.take k) ws[k] = 0
      · have hE0 : (wkE (ws.take k) ⟨ws[k].name, ws[k].mach⟩ != 0) = false := by show (wkE (ws.take k) ws[k] != 0) = false; simp [h0]
        have hnx := Lib.hid (show chkW ws = errsW (ws.take (k + 1)) (ws.drop (k + 1)) by rw [HK.out, hst.out, if_pos h0])
        clear h0
        go_wp2_with fail
        go_roundw
        case rel => exact ⟨k + 1, by omega, by go_num, hnx, hE1.out⟩
        case measure => simp [intOf]; omega
      · have hE0 : (wkE (ws.take k) ⟨ws[k].name, ws[k].mach⟩ != 0) = true := by show (wkE (ws.take k) ws[k] != 0) = true; simp [h0]
        have hfin := Lib.hid (show chkW ws = wkE (ws.take k) ws[k] by rw [HK.out, hst.out, if_neg h0])
        clear h0
        go_wp2_with fail
        go_ret
        exact ⟨ret_int hfin.out.symm, hE1.out⟩
    · go_wp2_with fail
      go_ret
      refine ⟨ret_int ?_, hext.out⟩
      rw [HK.out, List.drop_of_length_le (by omega)]; rfl

set_option maxHeartbeats 400000 in
theorem c_asked (v u : Value) (ws : List Wk) (needs : List Int) (w : World) (h : RdW w v ws) (g : RdI w u needs) :
    Calls Try.prog 33 #[v, u] w fun e w' => e = .returned (.int .i64 (askE ws needs)) ∧ Ext w w' := by
  obtain ⟨A, cap, rfl, hcap, hmax, hc⟩ := g
  unfold maxLen at hmax
  have hh := Lib.hid h
  clear h
  by_cases hk : chkW ws = 0
  · have hE : (chkW ws != 0) = false := by simp [hk]
    have hk := Lib.hid hk
    by_cases h16 : 16 < needs.length
    · go_enter Try.func33, Try.ntmps33
      go_wp2_with (go_at_call 16; refine (c_refCheck _ _ _ hh.out).mono ?_; rintro e w1 ⟨rfl, he⟩; have he := Lib.hid he)
      go_ret
      exact ⟨ret_int (by simp [askE, hk.out, h16]), he.out⟩
    · have hd : decide (16 < (needs.length : Int)) = false := by simp; omega
      go_enter Try.func33, Try.ntmps33
      go_wp2_with (go_at_call 16; refine (c_refCheck _ _ _ hh.out).mono ?_; rintro e w1 ⟨rfl, he⟩)
      go_loop [6] (fun i => ∃ k : Nat, k ≤ needs.length ∧ i = .int .i64 k ∧ Hid ((needs.take k).all isM = true)) (fun i => needs.length - (intOf i).toNat)
      case atStart => exact ⟨0, Nat.zero_le _, rfl, Lib.hid (by simp)⟩
      case round =>
        obtain ⟨k, hk', rfl, HK⟩ := hrel
        by_cases hlt : k < needs.length
        · obtain ⟨b, o, rfl, hcell⟩ := hc k hlt
          have hcell := he.cell hcell
          cases hM : isM needs[k] with
          | true =>
            have he := Lib.hid he
            go_wp2_with (go_at_call 46; refine (c_machine _ _).mono ?_; rintro e w1 ⟨rfl, rfl⟩; rw [hM])
            go_round
            case rel => exact ⟨k + 1, by omega, by go_num, Lib.hid (by rw [take_snoc needs k hlt, List.all_append, HK.out]; simp [hM])⟩
            case measure => simp [intOf]; omega
          | false =>
            have he := Lib.hid he
            go_wp2_with (go_at_call 46; refine (c_machine _ _).mono ?_; rintro e w1 ⟨rfl, rfl⟩; rw [hM])
            go_ret
            refine ⟨ret_int ?_, he.out⟩
            have hno : needs.all isM = false := by
              rw [Bool.eq_false_iff]; intro ha; rw [List.all_eq_true] at ha
              have := ha needs[k] (List.getElem_mem hlt); rw [hM] at this; cases this
            simp only [askE, hk.out, if_true, if_neg h16, hno]; simp
        · have he := Lib.hid he
          go_wp2
          go_ret
          refine ⟨ret_int ?_, he.out⟩
          have hy : needs.all isM = true := by have := HK.out; rwa [List.take_of_length_le (by omega)] at this
          simp only [askE, hk.out, if_true, if_neg h16, hy]
  · have hE : (chkW ws != 0) = true := by simp [hk]
    go_enter Try.func33, Try.ntmps33
    go_wp2_with (go_at_call 16; refine (c_refCheck _ _ _ hh.out).mono ?_; rintro e w1 ⟨rfl, he⟩; have he := Lib.hid he)
    go_ret
    exact ⟨ret_int (by simp [askE, hk]), he.out⟩

set_option maxHeartbeats 1000000 in
theorem w_checks (v : Value) (m : Int) (ws : List Wk) (w : World) (h : RdW w v ws) :
    Calls Try.prog 3 #[v, .int .i64 m] w fun e w' => e = .returned (.bool true) ∧ Ext w w' := by
  have hh := Lib.hid h
  obtain ⟨A, cap, rfl, hcap, hmax, hc⟩ := h
  unfold maxLen at hmax
  replace hc := Lib.hid hc
  cases hL : lightB ws 0 with
  | false =>
    go_enter Try.func3, Try.ntmps3
    go_wp2_with fail
    refine (c_light _ _ ws [] _ hh.out (RdI.nil _)).mono ?_
    rintro e w1 ⟨rfl, rfl⟩
    rw [show lightB ws ([] : List Int).length = false from hL]
    go_wp2_with fail
    refine (c_alive _).mono ?_
    rintro e w1 ⟨rfl, he⟩
    replace he := Lib.hid he
    go_wp2_with fail
    go_ret
    exact ⟨rfl, he.out⟩
  | true =>
    go_enter Try.func3, Try.ntmps3
    go_wp2_with fail
    refine (c_light _ _ ws [] _ hh.out (RdI.nil _)).mono ?_
    rintro e w1 ⟨rfl, rfl⟩
    rw [show lightB ws ([] : List Int).length = true from hL]
    go_wp2_with fail
    go_loopw [5] (fun i wr => ∃ k : Nat, k ≤ ws.length ∧ i = .int .i64 k ∧ Ext w wr) (fun i _ => ws.length - (intOf i).toNat)
    case atStart => exact ⟨0, Nat.zero_le _, rfl, Ext.refl _⟩
    case round =>
      obtain ⟨k, hk, rfl, hext⟩ := hrel
      replace hext := Lib.hid hext
      by_cases hlt : k < ws.length
      · obtain ⟨b, o, mv, rfl, hwn, hwm, hwr, _⟩ := hc.out k hlt
        replace hwn := hext.out.cell hwn
        replace hwm := hext.out.cell hwm
        have hb : b < wr.heap.size := World.block_lt_of_cell? wr _ hwn
        have hrr := Lib.hid (hwr.ext hext.out)
        have hN : wr.heap.size ≤ wr.heap.size := Nat.le_refl _
        have i0 : (0 : Int) ≤ (k : Int) := by omega
        have i1 : (k : Int) < (ws.length : Int) := by omega
        have hq : ∀ x : Bool, (x != x) = false := fun x => by simp
        clear hwr
        go_wp2_with fail
        go_region_held3 (fun w' => (∀ b o, b < wr.heap.size → w'.cell? ⟨b, o, none⟩ = wr.cell? ⟨b, o, none⟩) ∧ Kp wr.heap.size wr w')
          (first
            | exact (Kp.start hN).drew.both
            | (go_split_ands; exact ((by assumption : Kp _ _ _).call he).both))
          (first
            | (go_at_call 13; go_split_ands; have hx := (by assumption : Kp _ _ _).ext (Ext.refl _) (Nat.le_refl _); refine (c_can ws[k].name _ m ws[k].mach _ (hrr.out.ext hx)).mono ?_; rintro e w1 ⟨rfl, he⟩; clear hx)
            | (go_at_call 14; go_split_ands; have hx := (by assumption : Kp _ _ _).ext (Ext.refl _) (Nat.le_refl _); refine (c_refcan ws[k].name _ m ws[k].mach _ (hrr.out.ext hx)).mono ?_; rintro e w2 ⟨rfl, he⟩; clear hx))
        have hfin := Lib.hid ((by assumption : _ ∧ Kp wr.heap.size wr w2).2.ext (Ext.refl _) (Nat.le_refl _))
        clear he
        go_wp2_with fail
        go_roundw
        case rel => exact ⟨k + 1, by omega, by go_num, hext.out.trans hfin.out⟩
        case measure => simp [intOf]; omega
      · go_wp2_with fail
        refine (c_skCheck _ ws _ (hh.out.ext hext.out)).mono ?_
        rintro e w2 ⟨rfl, hE2⟩
        replace hE2 := Lib.hid (hext.out.trans hE2)
        go_wp2_with fail
        refine (c_refCheck _ ws _ (hh.out.ext hE2.out)).mono ?_
        rintro e w3 ⟨rfl, hE3⟩
        replace hE3 := Lib.hid (hE2.out.trans hE3)
        have hq : (chkW ws == chkW ws) = true := by simp
        go_wp2_with fail
        refine (c_alive _).mono ?_
        rintro e w4 ⟨rfl, he⟩
        replace he := Lib.hid (hE3.out.trans he)
        go_wp2_with fail
        go_ret
        exact ⟨rfl, he.out⟩
end Go.Proofs.Ythfcllefmeoicaa
