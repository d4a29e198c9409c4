/- Contract of spec.isName. -/
import Derived.Test.YtiahfiopigjolaaGreatEdg
namespace Go.Proofs.YtiahfiopigjolaaGreat
open Go Go.RowKit

set_option maxHeartbeats 400000 in
theorem c_spName (s : ByteArray) (w : World) (hs : s.size ≤ maxLen) : Calls Tryz.prog 16 #[.string s] w fun e w' => e = .returned (.bool (nmB s)) ∧ w = w' := by
  unfold maxLen at hs
  have HS := Lib.hid hs
  by_cases h0 : s.size = 0
  · have hz1 : s.toList = [] := by rw [ByteArray.toList_eq]; exact List.length_eq_zero_iff.1 h0
    have hz2 : s.toList.isEmpty = true := by rw [hz1]; rfl
    have H := Lib.hid h0
    clear h0
    go_enter Tryz.func16, Tryz.ntmps16
    go_wp2
    go_ret
    exact ⟨ret_bool (by simp [nmB, H.out]), rfl⟩
  have hz1 : ¬ s.toList = [] := by rw [ByteArray.toList_eq]; exact fun h => h0 (List.length_eq_zero_iff.2 h)
  have hz2 : s.toList.isEmpty = false := by
    cases e : s.toList.isEmpty with
    | false => rfl
    | true => exact absurd (List.isEmpty_iff.1 e) hz1
  by_cases h1 : 24 < s.size
  · go_enter Tryz.func16, Tryz.ntmps16
    go_wp2
    go_ret
    exact ⟨ret_bool (by simp [nmB]; omega), rfl⟩
  have hL : decide (24 < ((s.size : Nat) : Int)) = false := by simp; omega
  cases hm : s.toList == [109, 105, 110] with
  | true =>
    go_enter Tryz.func16, Tryz.ntmps16
    go_wp2
    go_ret
    exact ⟨ret_bool (by simp [nmB, hm]), rfl⟩
  | false =>
  cases hM : s.toList == [109, 97, 120] with
  | true =>
    go_enter Tryz.func16, Tryz.ntmps16
    go_wp2
    go_ret
    exact ⟨ret_bool (by simp [nmB, hM]), rfl⟩
  | false =>
    go_enter Tryz.func16, Tryz.ntmps16
    go_wp2
    go_loop [22] (fun i => ∃ k : Nat, k ≤ s.size ∧ i = .int .i64 k ∧ Hid (∀ i, i < k → chOk i (s.data[i]!) = true)) (fun i => s.size - (intOf i).toNat)
    case atStart => exact ⟨0, Nat.zero_le _, rfl, Lib.hid (fun i hi => absurd hi (by omega))⟩
    case round =>
      obtain ⟨k, hk, rfl, HK⟩ := hrel
      by_cases hlt : k < s.size
      · have hc := s[k].toNat_lt
        by_cases hA1 : (97 : Int) ≤ s[k].toNat
        · by_cases hA2 : (s[k].toNat : Int) ≤ 122
          · have hok := Lib.hid (ok_succ HK.out hlt (by simp [chOk]; omega))
            go_wp2
            go_round
            case rel => exact ⟨k + 1, by omega, by go_num, hok⟩
            case measure => simp [intOf]; omega
          · have h95 : ((s[k].toNat : Int) != 95) = true := by simp; omega
            have h48 : ¬ (s[k].toNat : Int) < 48 := by omega
            have h57 : (57 : Int) < s[k].toNat := by omega
            have hno := Lib.hid (nm_no hlt (by simp [chOk]; omega))
            by_cases hk0 : k = 0
            · have hk1 : ((k : Int) == 0) = true := by simp [hk0]
              replace hk0 := Lib.hid hk0
              go_wp2
              go_ret
              exact ⟨ret_bool hno.out.symm, rfl⟩
            · have hk1 : ((k : Int) == 0) = false := by simp [hk0]
              go_wp2
              go_ret
              exact ⟨ret_bool hno.out.symm, rfl⟩
        · by_cases hk0 : k = 0
          · have hk1 : ((k : Int) == 0) = true := by simp [hk0]
            have hno := Lib.hid (nm_no hlt (by simp [chOk, hk0]; simp [hk0] at hA1; omega))
            replace hk0 := Lib.hid hk0
            go_wp2
            go_ret
            exact ⟨ret_bool hno.out.symm, rfl⟩
          · have hk1 : ((k : Int) == 0) = false := by simp [hk0]
            by_cases h95 : s[k].toNat = 95
            · have h951 : ((s[k].toNat : Int) != 95) = false := by simp [h95]
              have hok := Lib.hid (ok_succ HK.out hlt (by simp [chOk, h95, hk0]))
              replace h95 := Lib.hid h95
              go_wp2
              go_round
              case rel => exact ⟨k + 1, by omega, by go_num, hok⟩
              case measure => simp [intOf]; omega
            · have h951 : ((s[k].toNat : Int) != 95) = true := by simp; omega
              by_cases hD1 : (s[k].toNat : Int) < 48
              · have hno := Lib.hid (nm_no hlt (by simp [chOk, hk0]; omega))
                go_wp2
                go_ret
                exact ⟨ret_bool hno.out.symm, rfl⟩
              · by_cases hD2 : (57 : Int) < s[k].toNat
                · have hno := Lib.hid (nm_no hlt (by simp [chOk, hk0]; omega))
                  go_wp2
                  go_ret
                  exact ⟨ret_bool hno.out.symm, rfl⟩
                · have hok := Lib.hid (ok_succ HK.out hlt (by simp [chOk, hk0]; omega))
                  go_wp2
                  go_round
                  case rel => exact ⟨k + 1, by omega, by go_num, hok⟩
                  case measure => simp [intOf]; omega
      · go_wp2
        go_ret
        refine ⟨ret_bool ?_, rfl⟩
        have : k = s.size := by omega
        subst this
        have h2 : s.size ≤ 24 := by omega
        simp [nmB, h0, h2, hm, hM]
        exact HK.out

end Go.Proofs.YtiahfiopigjolaaGreat
