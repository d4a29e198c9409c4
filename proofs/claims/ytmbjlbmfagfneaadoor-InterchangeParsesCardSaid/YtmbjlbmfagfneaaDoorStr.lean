/- Contracts of the functions of texts: lines, front. -/
import Derived.Test.YtmbjlbmfagfneaaDoorBase
import Derived.Test.YtmbjlbmfagfneaaDoorLaw
namespace Go.Proofs.YtmbjlbmfagfneaaDoor
open Go Go.RowKit

/-- a text's bytes -/
def bs (s : ByteArray) : B := s.data.toList
/-- the text of bytes -/
def ofB (l : B) : ByteArray := ⟨l.toArray⟩
theorem bs_ofB (l : B) : bs (ofB l) = l := rfl
theorem bs_inj {s t : ByteArray} (h : bs s = bs t) : s = t := by
  obtain ⟨⟨l⟩⟩ := s
  obtain ⟨⟨r⟩⟩ := t
  have : l = r := h
  rw [this]
theorem ofB_bs (s : ByteArray) : ofB (bs s) = s := bs_inj rfl
theorem bs_len (s : ByteArray) : (bs s).length = s.size := rfl
theorem bs_get (s : ByteArray) (k : Nat) (h : k < s.size) : s[k] = (bs s)[k]'(by rw [bs_len]; exact h) := rfl
theorem bs_take (s : ByteArray) (k : Nat) : s.extract 0 k = ofB ((bs s).take k) := bs_inj (by rw [bs_ofB]; exact Lib.extract_from_zero s k)

theorem count_snoc (l : B) (k : Nat) (h : k < l.length) : (l.take (k + 1)).count 10 = (l.take k).count 10 + if l[k] = 10 then 1 else 0 := by
  rw [take_snoc l k h, List.count_append, List.count_singleton]
  simp

theorem byte10 {x : UInt8} (h : ((x.toNat : Int) == 10) = true) : x = 10 := by
  rw [beq_iff_eq] at h
  apply UInt8.toNat_inj.1
  show x.toNat = 10
  omega
theorem byte10_no {x : UInt8} (h : ((x.toNat : Int) == 10) = false) : x ≠ 10 := by
  rintro rfl
  exact absurd h (by decide)

set_option maxHeartbeats 1000000 in
theorem c_lines (s : ByteArray) (w : World) (hs : s.size ≤ 9223372036854775807) :
    Calls Tryd.prog 16 #[.string s] w fun e w' => e = .returned (.int .i64 ((bs s).count 10 : Nat)) ∧ w = w' := by
  go_enter Tryd.func16, Tryd.ntmps16
  go_wp2
  go_loop [3, 4] (fun n i => ∃ k : Nat, k ≤ s.size ∧ i = .int .i64 k ∧ n = .int .i64 (((bs s).take k).count 10 : Nat)) (fun _ i => s.size - (intOf i).toNat)
  case atStart => exact ⟨0, Nat.zero_le _, rfl, by simp⟩
  case round =>
    obtain ⟨k, hk, rfl, rfl⟩ := hrel
    have hcl : ((bs s).take k).count 10 ≤ k := Nat.le_trans List.count_le_length (by simp; omega)
    by_cases hlt : k < s.size
    · have hsn := Lib.hid (count_snoc (bs s) k (by rw [bs_len]; exact hlt))
      rcases hb : ((s[k].toNat : Int) == 10) with _ | _
      rotate_left
      · have h10 := Lib.hid (show (bs s)[k]'(by rw [bs_len]; exact hlt) = 10 from byte10 hb)
        go_wp2
        go_round
        case rel => exact ⟨k + 1, by omega, by go_num, by rw [hsn.out, if_pos h10.out]; go_num⟩
        case measure => simp [intOf]; omega
      · have h10 := Lib.hid (show (bs s)[k]'(by rw [bs_len]; exact hlt) ≠ 10 from byte10_no hb)
        go_wp2
        go_round
        case rel => exact ⟨k + 1, by omega, by go_num, by rw [hsn.out, if_neg h10.out]; go_num⟩
        case measure => simp [intOf]; omega
    · go_wp2
      go_ret
      exact ⟨ret_int (by rw [List.take_of_length_le (by rw [bs_len]; omega)]), rfl⟩

theorem front_step (l : B) (k j : Nat) (h : k < l.length) : front (l.drop k) (j + 1) = l[k] :: front (l.drop (k + 1)) (if l[k] = 10 then j else j + 1) := by
  rw [List.drop_eq_getElem_cons h, front]
theorem front_zero (l : B) : front l 0 = [] := by cases l <;> rfl

theorem front_go {l : B} {n k j : Nat} (h : k < l.length) (hf : front l n = l.take k ++ front (l.drop k) (j + 1)) : front l n = l.take (k + 1) ++ front (l.drop (k + 1)) (if l[k] = 10 then j else j + 1) := by
  rw [hf, front_step l k j h, take_snoc l k h, List.append_assoc]; rfl

set_option maxHeartbeats 1000000 in
theorem c_front (s : ByteArray) (n : Nat) (w : World) (hs : s.size ≤ 9223372036854775807) (hn : n ≤ 9223372036854775807) :
    Calls Tryd.prog 17 #[.string s, .int .i64 n] w fun e w' => e = .returned (.string (ofB (front (bs s) n))) ∧ w = w' := by
  go_enter Tryd.func17, Tryd.ntmps17
  go_wp2
  go_loop [1, 5] (fun m i => ∃ k j : Nat, k ≤ s.size ∧ j ≤ n ∧ i = .int .i64 k ∧ m = .int .i64 j ∧ front (bs s) n = (bs s).take k ++ front ((bs s).drop k) j) (fun _ i => s.size - (intOf i).toNat)
  case atStart => exact ⟨0, n, Nat.zero_le _, Nat.le_refl _, rfl, rfl, by simp⟩
  case round =>
    obtain ⟨k, j, hk, hj, rfl, rfl, hf⟩ := hrel
    replace hf := Lib.hid hf
    by_cases hlt : k < s.size
    · rcases j with _ | j
      · go_wp2
        go_ret
        refine ⟨?_, rfl⟩
        rw [bs_take, hf.out, front_zero, List.append_nil]; rfl
      · rcases hb : ((s[k].toNat : Int) == 10) with _ | _
        rotate_left
        · have h10 := Lib.hid (show (bs s)[k]'(by rw [bs_len]; exact hlt) = 10 from byte10 hb)
          go_wp2
          go_round
          case rel => exact ⟨k + 1, j, by omega, by omega, by go_num, by go_num, by rw [front_go (by rw [bs_len]; exact hlt) hf.out, if_pos h10.out]⟩
          case measure => simp [intOf]; omega
        · have h10 := Lib.hid (show (bs s)[k]'(by rw [bs_len]; exact hlt) ≠ 10 from byte10_no hb)
          go_wp2
          go_round
          case rel => exact ⟨k + 1, j + 1, by omega, by omega, by go_num, by go_num, by rw [front_go (by rw [bs_len]; exact hlt) hf.out, if_neg h10.out]⟩
          case measure => simp [intOf]; omega
    · go_wp2
      go_ret
      refine ⟨?_, rfl⟩
      have hd : (bs s).drop k = [] := List.drop_of_length_le (by rw [bs_len]; omega)
      rw [bs_take, hf.out, hd, show front [] j = [] by rfl, List.append_nil]; rfl

end Go.Proofs.YtmbjlbmfagfneaaDoor
