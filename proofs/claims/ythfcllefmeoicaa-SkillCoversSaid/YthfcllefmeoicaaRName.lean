/- Contracts of the reference's check of a name: digit, Name. -/
import Derived.Test.YthfcllefmeoicaaName
namespace Go.Proofs.Ythfcllefmeoicaa
open Go.RowKit

theorem c_rDigit (c : Int) (h0 : 0 ≤ c) (h1 : c < 256) (w : World) : Calls Try.prog 90 #[.int .u8 c] w fun e w' => e = .returned (.bool (decide (48 ≤ c ∧ c ≤ 57))) ∧ w = w' := by
  by_cases h : 48 ≤ c
  · go_enter Try.func90, Try.ntmps90
    go_wp2
    go_ret
    exact ⟨ret_bool (by simp [h]), rfl⟩
  · go_enter Try.func90, Try.ntmps90
    go_wp2
    go_ret
    exact ⟨ret_bool (by simp; omega), rfl⟩

theorem toList_len (s : ByteArray) : s.toList.length = s.size := by
  rw [ByteArray.toList_eq]; rfl

set_option maxHeartbeats 800000 in
theorem c_rName (s : ByteArray) (w : World) (hs : s.size ≤ maxLen) : Calls Try.prog 79 #[.string s] w fun e w' => e = .returned (.bool (nmB s)) ∧ w = w' := by
  unfold maxLen at hs
  by_cases h0 : s.size = 0
  · have hz : s.toList = [] := List.length_eq_zero_iff.1 (by rw [toList_len]; exact h0)
    have hz2 : s.toList.isEmpty = true := by rw [hz]; rfl
    have H := Lib.hid h0
    clear h0
    go_enter Try.func79, Try.ntmps79
    go_wp2
    go_ret
    exact ⟨ret_bool (by simp [nmB, H.out]), rfl⟩
  have hz2 : s.toList.isEmpty = false := by
    rw [List.isEmpty_eq_false_iff]; intro e; have := toList_len s; rw [e] at this; simp at this; omega
  by_cases h1 : 24 < s.size
  · go_enter Try.func79, Try.ntmps79
    go_wp2
    go_ret
    exact ⟨ret_bool (by simp [nmB]; omega), rfl⟩
  have hL : decide (24 < ((s.size : Nat) : Int)) = false := by simp; omega
  cases hm : s.toList == [109, 105, 110] with
  | true =>
    go_enter Try.func79, Try.ntmps79
    go_wp2
    go_ret
    exact ⟨ret_bool (by simp [nmB, hm]), rfl⟩
  | false =>
  cases hM : s.toList == [109, 97, 120] with
  | true =>
    go_enter Try.func79, Try.ntmps79
    go_wp2
    go_ret
    exact ⟨ret_bool (by simp [nmB, hM]), rfl⟩
  | false =>
    have hp : 0 < s.size := by omega
    have hc0 := s[0].toNat_lt
    by_cases hF : 97 ≤ (s[0].toNat : Int) ∧ (s[0].toNat : Int) ≤ 122
    · obtain ⟨hF1, hF2⟩ := hF
      go_enter Try.func79, Try.ntmps79
      go_wp2
      go_loop [3] (fun i => ∃ k : Nat, k ≤ s.size ∧ i = .int .i64 k ∧ Hid (∀ i, i < k → chOk i (s.data[i]!) = true)) (fun i => s.size - (intOf i).toNat)
      case atStart => exact ⟨0, Nat.zero_le _, rfl, Lib.hid (fun i hi => absurd hi (by omega))⟩
      case round =>
        obtain ⟨k, hk, rfl, HK⟩ := hrel
        by_cases hlt : k < s.size
        · have hc := s[k].toNat_lt
          have hfirst : k = 0 → 97 ≤ s[k].toNat ∧ s[k].toNat ≤ 122 := by rintro rfl; omega
          by_cases hD : 48 ≤ (s[k].toNat : Int) ∧ (s[k].toNat : Int) ≤ 57
          · have hok := Lib.hid (ok_succ HK.out hlt (by
              have : k ≠ 0 := fun e => by have := hfirst e; omega
              simp [chOk, this]; omega))
            clear hfirst
            go_wp2_with (go_at_call 90; refine (c_rDigit _ (by omega) (by omega) _).mono ?_; rintro e w1 ⟨rfl, rfl⟩; rw [decide_eq_true hD])
            go_round
            case rel => exact ⟨k + 1, by omega, by go_num, hok⟩
            case measure => simp [intOf]; omega
          · by_cases h95 : s[k].toNat = 95
            · have h951 : ((s[k].toNat : Int) != 95) = false := by simp [h95]
              have hok := Lib.hid (ok_succ HK.out hlt (by
                have : k ≠ 0 := fun e => by have := hfirst e; omega
                simp [chOk, h95, this]))
              clear h95 hfirst
              go_wp2_with (go_at_call 90; refine (c_rDigit _ (by omega) (by omega) _).mono ?_; rintro e w1 ⟨rfl, rfl⟩; rw [decide_eq_false hD])
              go_round
              case rel => exact ⟨k + 1, by omega, by go_num, hok⟩
              case measure => simp [intOf]; omega
            · have h951 : ((s[k].toNat : Int) != 95) = true := by simp; omega
              by_cases hA : 97 ≤ (s[k].toNat : Int) ∧ (s[k].toNat : Int) ≤ 122
              · obtain ⟨hA1, hA2⟩ := hA
                have hok := Lib.hid (ok_succ HK.out hlt (by simp [chOk]; omega))
                clear hfirst
                go_wp2_with (go_at_call 90; refine (c_rDigit _ (by omega) (by omega) _).mono ?_; rintro e w1 ⟨rfl, rfl⟩; rw [decide_eq_false hD])
                go_round
                case rel => exact ⟨k + 1, by omega, by go_num, hok⟩
                case measure => simp [intOf]; omega
              · have hno := Lib.hid (nm_no hlt (by simp [chOk]; omega))
                clear hfirst
                rcases Nat.lt_or_ge s[k].toNat 97 with hB | hB
                · go_wp2_with (go_at_call 90; refine (c_rDigit _ (by omega) (by omega) _).mono ?_; rintro e w1 ⟨rfl, rfl⟩; rw [decide_eq_false hD])
                  go_ret
                  exact ⟨ret_bool hno.out.symm, rfl⟩
                · have hB' : ¬ (s[k].toNat : Int) ≤ 122 := by omega
                  go_wp2_with (go_at_call 90; refine (c_rDigit _ (by omega) (by omega) _).mono ?_; rintro e w1 ⟨rfl, rfl⟩; rw [decide_eq_false hD])
                  go_ret
                  exact ⟨ret_bool hno.out.symm, rfl⟩
        · go_wp2
          go_ret
          refine ⟨ret_bool ?_, rfl⟩
          have : k = s.size := by omega
          subst this
          have h2 : s.size ≤ 24 := by omega
          simp [nmB, h0, h2, hm, hM]
          exact HK.out
    · have hno := Lib.hid (nm_no hp (by simp [chOk]; omega))
      rcases Nat.lt_or_ge s[0].toNat 97 with hB | hB
      · go_enter Try.func79, Try.ntmps79
        go_wp2
        go_ret
        exact ⟨ret_bool hno.out.symm, rfl⟩
      · have hB' : ¬ (s[0].toNat : Int) ≤ 122 := by omega
        go_enter Try.func79, Try.ntmps79
        go_wp2
        go_ret
        exact ⟨ret_bool hno.out.symm, rfl⟩
end Go.Proofs.Ythfcllefmeoicaa
