/- Contracts of the small functions: isId, Check. -/
import Derived.Test.YtphaigncbenmmaaGreatDoorBase
namespace Go.Proofs.YtphaigncbenmmaaGreatDoor
open Go Go.RowKit

/-- the first k bytes have the form of an Id's -/
structure IdUp (s : ByteArray) (k : Nat) : Prop where
  one : (((bs s).take k).take 1).all cap = true
  more : (((bs s).take k).drop 1).all (fun c => cap c || oth c) = true

theorem IdUp.zero (s : ByteArray) : IdUp s 0 := ⟨by simp, by simp⟩
theorem IdUp.next {s : ByteArray} {k : Nat} (h : IdUp s k) (hk : k < s.size) (hc : cap s[k] = true ∨ (k ≠ 0 ∧ oth s[k] = true)) : IdUp s (k + 1) := by
  have hk' : k < (bs s).length := by rw [bs_len]; exact hk
  obtain ⟨h1, h2⟩ := h
  have e : (bs s)[k] = s[k] := rfl
  rcases k with _ | k
  · have hc : cap s[0] = true := by rcases hc with h | h; exact h; exact absurd rfl h.1
    have e1 : (bs s).take (0 + 1) = [s[0]] := by rw [take_snoc _ 0 hk', e]; rfl
    exact ⟨by rw [e1]; simp [hc], by rw [e1]; simp⟩
  · have hl : ((bs s).take (k + 1)).length = k + 1 := by rw [List.length_take]; omega
    refine ⟨?_, ?_⟩
    · rw [take_snoc _ _ hk', List.take_append_of_le_length (by omega)]; exact h1
    · rw [take_snoc _ _ hk', List.drop_append_of_le_length (by omega), List.all_append, h2]
      rcases hc with h | h
      · have h : cap ((bs s)[k + 1]) = true := h
        simp [h]
      · have h : oth ((bs s)[k + 1]) = true := h.2
        simp [h]
theorem IdUp.hit {s : ByteArray} {k : Nat} (hk : k < s.size) (h1 : cap s[k] = false) (h2 : k = 0 ∨ oth s[k] = false) : idOk (bs s) = false := by
  have hk' : k < (bs s).length := by rw [bs_len]; exact hk
  have e : (bs s)[k] = s[k] := rfl
  cases hi : idOk (bs s) with
  | false => rfl
  | true =>
    simp only [idOk, Bool.and_eq_true, List.all_eq_true] at hi
    obtain ⟨_, a1, a2⟩ := hi
    rcases k with _ | k
    · have := a1 s[0] (by rw [← e, List.mem_take_iff_getElem]; exact ⟨0, by omega, rfl⟩)
      exact absurd (h1.symm.trans this) (by decide)
    · have := a2 s[k + 1] (by
        rw [← e, List.mem_drop_iff_getElem]
        exact ⟨k, by omega, by simp [Nat.add_comm]⟩)
      rcases h2 with h2 | h2
      · omega
      · rcases Bool.or_eq_true_iff.1 this with h | h
        · exact absurd (h1.symm.trans h) (by decide)
        · exact absurd (h2.symm.trans h) (by decide)
theorem IdUp.done {s : ByteArray} {k : Nat} (h : IdUp s k) (hk : ¬ k < s.size) : idOk (bs s) = decide (1 ≤ s.size ∧ s.size ≤ 8) := by
  obtain ⟨h1, h2⟩ := h
  have et : (bs s).take k = bs s := List.take_of_length_le (by rw [bs_len]; omega)
  rw [et] at h1 h2
  unfold idOk
  rw [h1, h2, bs_len]; simp

set_option maxHeartbeats 1000000 in
theorem c_isId (s : ByteArray) (w : World) (hs : s.size ≤ 9223372036854775807) :
    Calls Tryz.prog 23 #[.string s] w fun e w' => e = .returned (.bool (idOk (bs s))) ∧ w = w' := by
  go_enter Tryz.func23, Tryz.ntmps23
  go_wp2
  go_loop [9] (fun i => ∃ k : Nat, k ≤ s.size ∧ i = .int .i64 k ∧ IdUp s k) (fun i => s.size - (intOf i).toNat)
  case atStart => exact ⟨0, Nat.zero_le _, rfl, IdUp.zero s⟩
  case round =>
    obtain ⟨k, hk, rfl, hup⟩ := hrel
    by_cases hlt : k < s.size
    · have hcap := Lib.hid (show cap s[k] = decide (65 ≤ s[k].toNat ∧ s[k].toNat ≤ 90) from rfl)
      have hoth := Lib.hid (show oth s[k] = (decide (97 ≤ s[k].toNat ∧ s[k].toNat ≤ 122) || decide (48 ≤ s[k].toNat ∧ s[k].toNat ≤ 57)) from rfl)
      have bad : (s[k].toNat : Int) < 48 ∨ (57 < (s[k].toNat : Int) ∧ (s[k].toNat : Int) < 65) ∨ (90 < (s[k].toNat : Int) ∧ (s[k].toNat : Int) < 97) ∨ 122 < (s[k].toNat : Int) → idOk (bs s) = false := by
        intro h
        refine IdUp.hit hlt ?_ (.inr ?_)
        · rw [hcap.out]; simp; omega
        · rw [hoth.out]; simp; omega
      have bad0 : k = 0 → ¬ (65 ≤ (s[k].toNat : Int) ∧ (s[k].toNat : Int) ≤ 90) → idOk (bs s) = false := by
        intro h0 h
        refine IdUp.hit hlt ?_ (.inl h0)
        rw [hcap.out]; simp; omega
      have good : (65 ≤ (s[k].toNat : Int) ∧ (s[k].toNat : Int) ≤ 90) ∨ (k ≠ 0 ∧ ((97 ≤ (s[k].toNat : Int) ∧ (s[k].toNat : Int) ≤ 122) ∨ (48 ≤ (s[k].toNat : Int) ∧ (s[k].toNat : Int) ≤ 57))) → IdUp s (k + 1) := by
        intro h
        refine hup.next hlt ?_
        rcases h with h | ⟨h0, h⟩
        · left; rw [hcap.out]; simp; omega
        · right; refine ⟨h0, ?_⟩; rw [hoth.out]; simp; omega
      replace bad := Lib.hid bad
      replace bad0 := Lib.hid bad0
      replace good := Lib.hid good
      clear hcap hoth
      replace hup := Lib.hid hup
      rcases Nat.eq_zero_or_pos k with h0 | h0
      · subst h0
        replace bad0 := Lib.hid (bad0.out rfl)
        by_cases e1 : 65 ≤ (s[0].toNat : Int) <;> by_cases e2 : (s[0].toNat : Int) ≤ 90 <;> by_cases e3 : 97 ≤ (s[0].toNat : Int) <;> by_cases e4 : (s[0].toNat : Int) ≤ 122 <;> by_cases e5 : 48 ≤ (s[0].toNat : Int) <;> by_cases e6 : (s[0].toNat : Int) ≤ 57
        all_goals first
          | (exfalso; omega)
          | (go_wp2
             go_ret
             refine ⟨ret_bool ?_, rfl⟩
             symm
             refine bad0.out ?_
             omega)
          | (go_wp2
             go_round
             case rel => exact ⟨1, by omega, by go_num, good.out (.inl ⟨e1, e2⟩)⟩
             case measure => simp [intOf]; omega)
      · have h0' : ¬ (k : Int) = 0 := by omega
        by_cases e1 : 65 ≤ (s[k].toNat : Int) <;> by_cases e2 : (s[k].toNat : Int) ≤ 90 <;> by_cases e3 : 97 ≤ (s[k].toNat : Int) <;> by_cases e4 : (s[k].toNat : Int) ≤ 122 <;> by_cases e5 : 48 ≤ (s[k].toNat : Int) <;> by_cases e6 : (s[k].toNat : Int) ≤ 57
        all_goals first
          | (exfalso; omega)
          | (go_wp2
             go_ret
             exact ⟨ret_bool (bad.out (by omega)).symm, rfl⟩)
          | (go_wp2
             go_round
             case rel => exact ⟨k + 1, by omega, by go_num, good.out (by omega)⟩
             case measure => simp [intOf]; omega)
    · have hd := Lib.hid (hup.done hlt)
      by_cases h1 : 1 ≤ s.size
      · by_cases h8 : s.size ≤ 8
        · go_wp2
          go_ret
          exact ⟨ret_bool (by rw [hd.out]; simp [h1, h8]; omega), rfl⟩
        · go_wp2
          go_ret
          exact ⟨ret_bool (by rw [hd.out]; simp [h8]; omega), rfl⟩
      · go_wp2
        go_ret
        exact ⟨ret_bool (by rw [hd.out]; simp; omega), rfl⟩

end Go.Proofs.YtphaigncbenmmaaGreatDoor
