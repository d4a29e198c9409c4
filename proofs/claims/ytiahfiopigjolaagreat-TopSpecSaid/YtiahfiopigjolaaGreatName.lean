/- Contracts of the functions that check a name: formula.Check (the program's). -/
import Derived.Test.YtiahfiopigjolaaGreatRat
namespace Go.Proofs.YtiahfiopigjolaaGreat
open Go.RowKit

theorem c_isDigit (c : Int) (h0 : 0 ≤ c) (h1 : c < 256) (w : World) : Calls Tryz.prog 88 #[.int .u8 c] w fun e w' => e = .returned (.bool (decide (48 ≤ c ∧ c ≤ 57))) ∧ w = w' := by
  by_cases h : 48 ≤ c
  · go_enter Tryz.func88, Tryz.ntmps88
    go_wp2
    go_ret
    exact ⟨ret_bool (by simp [h]), rfl⟩
  · go_enter Tryz.func88, Tryz.ntmps88
    go_wp2
    go_ret
    exact ⟨ret_bool (by simp; omega), rfl⟩

theorem data_get (s : ByteArray) (k : Nat) (h : k < s.size) : s.data[k]! = s[k] := by
  have h' : k < s.data.size := h
  rw [getElem!_pos s.data k h']; rfl
theorem nm_no {s : ByteArray} {k : Nat} (h : k < s.size) (hc : chOk k s[k] = false) : nmB s = false := by
  unfold nmB
  rw [Bool.and_eq_false_iff]
  right
  rw [Bool.eq_false_iff]
  intro ha
  rw [List.all_eq_true] at ha
  have := ha k (by simpa using h)
  rw [data_get s k h, hc] at this
  cases this
theorem ok_succ {s : ByteArray} {k : Nat} (hK : ∀ i, i < k → chOk i (s.data[i]!) = true) (h : k < s.size) (hc : chOk k s[k] = true) : ∀ i, i < k + 1 → chOk i (s.data[i]!) = true := by
  intro i hi
  rcases Nat.lt_succ_iff_lt_or_eq.1 hi with h' | rfl
  · exact hK i h'
  · rw [data_get s i h]; exact hc

set_option maxHeartbeats 400000 in
theorem c_isName (s : ByteArray) (w : World) (hs : s.size ≤ maxLen) : Calls Tryz.prog 78 #[.string s] w fun e w' => e = .returned (.bool (nmB s)) ∧ w = w' := by
  unfold maxLen at hs
  have HS := Lib.hid hs
  by_cases h0 : s.size = 0
  · have hz : (((s.size : Nat) : Int) == 0) = true := by simp [h0]
    have H := Lib.hid h0
    clear h0
    go_enter Tryz.func78, Tryz.ntmps78
    go_wp2
    go_ret
    exact ⟨ret_bool (by simp [nmB, H.out]), rfl⟩
  have hz : (((s.size : Nat) : Int) == 0) = false := by simp [h0]
  by_cases h1 : 24 < s.size
  · go_enter Tryz.func78, Tryz.ntmps78
    go_wp2
    go_ret
    exact ⟨ret_bool (by simp [nmB]; omega), rfl⟩
  have hL : decide (24 < ((s.size : Nat) : Int)) = false := by simp; omega
  cases hm : s.toList == [109, 105, 110] with
  | true =>
    go_enter Tryz.func78, Tryz.ntmps78
    go_wp2
    go_ret
    exact ⟨ret_bool (by simp [nmB, hm]), rfl⟩
  | false =>
  cases hM : s.toList == [109, 97, 120] with
  | true =>
    go_enter Tryz.func78, Tryz.ntmps78
    go_wp2
    go_ret
    exact ⟨ret_bool (by simp [nmB, hM]), rfl⟩
  | false =>
    go_enter Tryz.func78, Tryz.ntmps78
    go_wp2
    go_loop [24] (fun i => ∃ k : Nat, k ≤ s.size ∧ i = .int .i64 k ∧ Hid (∀ i, i < k → chOk i (s.data[i]!) = true)) (fun i => s.size - (intOf i).toNat)
    case atStart => exact ⟨0, Nat.zero_le _, rfl, Lib.hid (fun i hi => absurd hi (by omega))⟩
    case round =>
      obtain ⟨k, hk, rfl, HK⟩ := hrel
      by_cases hlt : k < s.size
      · have hc := s[k].toNat_lt
        by_cases hA : 97 ≤ (s[k].toNat : Int) ∧ (s[k].toNat : Int) ≤ 122
        · obtain ⟨hA1, hA2⟩ := hA
          go_wp2
          go_round
          case rel => exact ⟨k + 1, by omega, by go_num, Lib.hid (ok_succ HK.out hlt (by simp [chOk]; omega))⟩
          case measure => simp [intOf]; omega
        · by_cases hk0 : k = 0
          · have hk1 : ((k : Int) == 0) = true := by simp [hk0]
            have hno := Lib.hid (nm_no hlt (by simp [chOk, hk0]; simp [hk0] at hA; omega))
            clear hk0
            rcases Nat.lt_or_ge s[k].toNat 97 with hB | hB
            · go_wp2
              go_ret
              exact ⟨ret_bool hno.out.symm, rfl⟩
            · have hB' : ¬ (s[k].toNat : Int) ≤ 122 := by omega
              go_wp2
              go_ret
              exact ⟨ret_bool hno.out.symm, rfl⟩
          · have hk1 : ((k : Int) == 0) = false := by simp [hk0]
            by_cases h95 : s[k].toNat = 95
            · have h951 : ((s[k].toNat : Int) != 95) = false := by simp [h95]
              have hok := Lib.hid (ok_succ HK.out hlt (by simp [chOk, h95, hk0]))
              have hB : (s[k].toNat : Int) < 97 := by omega
              clear h95
              go_wp2
              go_round
              case rel => exact ⟨k + 1, by omega, by go_num, hok⟩
              case measure => simp [intOf]; omega
            · have h951 : ((s[k].toNat : Int) != 95) = true := by simp; omega
              rcases Nat.lt_or_ge s[k].toNat 97 with hB | hB
              · by_cases hD : 48 ≤ (s[k].toNat : Int) ∧ (s[k].toNat : Int) ≤ 57
                · have hok := Lib.hid (ok_succ HK.out hlt (by simp [chOk, hk0]; omega))
                  go_wp2_with (go_at_call 88; refine (c_isDigit _ (by omega) (by omega) _).mono ?_; rintro e w1 ⟨rfl, rfl⟩; rw [decide_eq_true hD])
                  go_round
                  case rel => exact ⟨k + 1, by omega, by go_num, hok⟩
                  case measure => simp [intOf]; omega
                · have hno := Lib.hid (nm_no hlt (by simp [chOk, hk0]; omega))
                  go_wp2_with (go_at_call 88; refine (c_isDigit _ (by omega) (by omega) _).mono ?_; rintro e w1 ⟨rfl, rfl⟩; rw [decide_eq_false hD])
                  go_ret
                  exact ⟨ret_bool hno.out.symm, rfl⟩
              · have hB' : ¬ (s[k].toNat : Int) ≤ 122 := by omega
                have hD : ¬ (48 ≤ (s[k].toNat : Int) ∧ (s[k].toNat : Int) ≤ 57) := by omega
                have hno := Lib.hid (nm_no hlt (by simp [chOk, hk0]; omega))
                go_wp2_with (go_at_call 88; refine (c_isDigit _ (by omega) (by omega) _).mono ?_; rintro e w1 ⟨rfl, rfl⟩; rw [decide_eq_false hD])
                go_ret
                exact ⟨ret_bool hno.out.symm, rfl⟩
      · go_wp2
        go_ret
        refine ⟨ret_bool ?_, rfl⟩
        have : k = s.size := by omega
        subst this
        have h2 : s.size ≤ 24 := by omega
        simp [nmB, h0, h2, hm, hM]
        exact HK.out

/-- an expression that is a name alone -/
def nameExpr (s : ByteArray) : Value := .agg #[.int .i64 2, .bool false, .slice none 0 0, .slice none 0 0, .string s, .slice none 0 0]

set_option maxHeartbeats 400000 in
theorem c_operands2 (w : World) : Calls Tryz.prog 77 #[.int .i64 2] w fun e w' => e = .returned (.tuple #[.int .i64 0, .int .i64 0]) ∧ w = w' := by
  go_enter Tryz.func77, Tryz.ntmps77
  go_wp2
  go_ret2
  exact ⟨rfl, rfl⟩

set_option maxHeartbeats 400000 in
theorem c_right (s : ByteArray) (w : World) (hs : s.size ≤ maxLen) : Calls Tryz.prog 63 #[nameExpr s] w fun e w' => e = .returned (.bool (nmB s)) ∧ Ext w w' := by
  unfold nameExpr
  have HS := Lib.hid hs
  clear hs
  cases hn : nmB s with
  | true =>
    go_enter Tryz.func63, Tryz.ntmps63
    go_wp2_with (first
      | (go_at_call 77; refine (c_operands2 _).mono ?_; rintro e w1 ⟨rfl, rfl⟩)
      | (go_at_call 78; refine (c_isName s _ HS.out).mono ?_; rintro e w1 ⟨rfl, rfl⟩)
      | (go_at_call 53; refine (c_ratCmp0 _).mono ?_; rintro e w1 ⟨rfl, he⟩; have he := Lib.hid he))
    go_ret
    exact ⟨rfl, ((Ext.refl _).alloc _).trans he.out⟩
  | false =>
    go_enter Tryz.func63, Tryz.ntmps63
    go_wp2_with (first
      | (go_at_call 77; refine (c_operands2 _).mono ?_; rintro e w1 ⟨rfl, rfl⟩)
      | (go_at_call 78; refine (c_isName s _ HS.out).mono ?_; rintro e w1 ⟨rfl, rfl⟩))
    go_ret
    exact ⟨rfl, (Ext.refl _).alloc _⟩

/-- the error of a name -/
def nmE (s : ByteArray) : Int := if nmB s then 0 else 1

set_option maxHeartbeats 400000 in
theorem c_check (s : ByteArray) (w : World) (hs : s.size ≤ maxLen) : Calls Tryz.prog 50 #[nameExpr s, .int .i64 1] w fun e w' => e = .returned (.int .i64 (nmE s)) ∧ Ext w w' := by
  have HS := Lib.hid hs
  clear hs
  cases hn : nmB s with
  | true =>
    unfold nameExpr
    go_enter Tryz.func50, Tryz.ntmps50
    go_wp2_with (first
      | (go_at_call 63; refine (c_right s _ HS.out).mono ?_; rintro e w1 ⟨rfl, he⟩; have hb := he.cell (p := ⟨w.heap.size, 5, none⟩) (v := .slice none 0 0) (by simp); have he := Lib.hid he))
    go_loop [16] (fun i => i = .int .i64 0) (fun i => 0)
    case atStart => rfl
    case round =>
      subst hrel
      go_wp2
      go_ret
      exact ⟨ret_int (by simp [nmE, hn]), ((Ext.refl _).alloc _).trans he.out⟩
  | false =>
    unfold nameExpr
    go_enter Tryz.func50, Tryz.ntmps50
    go_wp2_with (first
      | (go_at_call 63; refine (c_right s _ HS.out).mono ?_; rintro e w1 ⟨rfl, he⟩; have he := Lib.hid he))
    go_ret
    exact ⟨ret_int (by simp [nmE, hn]), ((Ext.refl _).alloc _).trans he.out⟩

set_option maxHeartbeats 400000 in
theorem c_fCheck (s : ByteArray) (w : World) (hs : s.size ≤ maxLen) : Calls Tryz.prog 42 #[nameExpr s] w fun e w' => e = .returned (.int .i64 (nmE s)) ∧ Ext w w' := by
  have HS := Lib.hid hs
  clear hs
  unfold nameExpr
  go_enter Tryz.func42, Tryz.ntmps42
  go_wp2_with (first
    | (go_at_call 50; refine (c_check s _ HS.out).mono ?_; rintro e w1 ⟨rfl, he⟩; have he := Lib.hid he))
  go_ret
  exact ⟨rfl, ((Ext.refl _).alloc _).trans he.out⟩
end Go.Proofs.YtiahfiopigjolaaGreat
