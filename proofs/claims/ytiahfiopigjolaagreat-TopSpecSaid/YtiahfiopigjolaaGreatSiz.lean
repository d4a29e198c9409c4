/- Contracts of chart.isSize, chart.Check of a chart with one size alone, style.isSize. -/
import Derived.Test.YtiahfiopigjolaaGreatOli
namespace Go.Proofs.YtiahfiopigjolaaGreat
open Go Go.RowKit

theorem sz_no {s : ByteArray} {k : Nat} (h : k < s.size) (hc : szCh s[k] = false) : szB s = false := by
  unfold szB
  rw [Bool.and_eq_false_iff]
  left
  rw [Bool.eq_false_iff]
  intro ha
  rw [List.all_eq_true] at ha
  have := ha k (by simpa using h)
  rw [data_get s k h, hc] at this
  cases this
theorem sz_succ {s : ByteArray} {k : Nat} (hK : ∀ i, i < k → szCh (s.data[i]!) = true) (h : k < s.size) (hc : szCh s[k] = true) : ∀ i, i < k + 1 → szCh (s.data[i]!) = true := by
  intro i hi
  rcases Nat.lt_succ_iff_lt_or_eq.1 hi with h' | rfl
  · exact hK i h'
  · rw [data_get s i h]; exact hc
theorem sz_all {s : ByteArray} (h : ∀ i, i < s.size → szCh (s.data[i]!) = true) : szB s = decide (1 ≤ s.size ∧ s.size ≤ 8) := by
  unfold szB
  rw [List.all_eq_true.2 fun i hi => h i (by simpa using hi)]
  rfl

set_option maxHeartbeats 1000000 in
theorem c_chSize (s : ByteArray) (w : World) (hs : s.size ≤ maxLen) : Calls Tryz.prog 51 #[.string s] w fun e w' => e = .returned (.bool (szB s)) ∧ w' = w := by
  unfold maxLen at hs
  go_enter Tryz.func51, Tryz.ntmps51
  go_wp2
  go_loop [8] (fun i => ∃ k : Nat, k ≤ s.size ∧ i = .int .i64 k ∧ Hid (∀ i, i < k → szCh (s.data[i]!) = true)) (fun i => s.size - (intOf i).toNat)
  case atStart => exact ⟨0, Nat.zero_le _, rfl, Lib.hid (fun i hi => absurd hi (by omega))⟩
  case round =>
    obtain ⟨k, hk, rfl, HK⟩ := hrel
    by_cases hlt : k < s.size
    · have hc := s[k].toNat_lt
      by_cases hA1 : (65 : Int) ≤ s[k].toNat
      · have hD1 : (48 : Int) ≤ s[k].toNat := by omega
        have hD2 : ¬ (s[k].toNat : Int) ≤ 57 := by omega
        by_cases hA2 : (s[k].toNat : Int) ≤ 90
        · have hok := Lib.hid (sz_succ HK.out hlt (by simp [szCh]; omega))
          go_wp2
          go_round
          case rel => exact ⟨k + 1, by omega, by go_num, hok⟩
          case measure => simp [intOf]; omega
        · have hno := Lib.hid (sz_no hlt (by simp [szCh]; omega))
          go_wp2
          go_ret
          exact ⟨ret_bool hno.out.symm, rfl⟩
      · by_cases hD1 : (48 : Int) ≤ s[k].toNat
        · by_cases hD2 : (s[k].toNat : Int) ≤ 57
          · have hok := Lib.hid (sz_succ HK.out hlt (by simp [szCh]; omega))
            go_wp2
            go_round
            case rel => exact ⟨k + 1, by omega, by go_num, hok⟩
            case measure => simp [intOf]; omega
          · have hno := Lib.hid (sz_no hlt (by simp [szCh]; omega))
            go_wp2
            go_ret
            exact ⟨ret_bool hno.out.symm, rfl⟩
        · have hno := Lib.hid (sz_no hlt (by simp [szCh]; omega))
          go_wp2
          go_ret
          exact ⟨ret_bool hno.out.symm, rfl⟩
    · have hkn : k = s.size := by omega
      rw [hkn] at HK
      have hz := Lib.hid (sz_all HK.out)
      have hki : ¬ (k : Int) < s.size := by omega
      by_cases h1 : (1 : Int) ≤ s.size
      · by_cases h8 : (s.size : Int) ≤ 8
        · go_wp2
          go_ret
          exact ⟨ret_bool (by rw [hz.out]; simp; omega), rfl⟩
        · go_wp2
          go_ret
          exact ⟨ret_bool (by rw [hz.out]; simp; omega), rfl⟩
      · go_wp2
        go_ret
        exact ⟨ret_bool (by rw [hz.out]; simp; omega), rfl⟩

set_option maxHeartbeats 1000000 in
theorem c_containsS0 (A : Option Addr) (c : Nat) (s : ByteArray) (w : World) : Calls Tryz.prog 54 #[.slice A 0 c, .string s] w fun e w' => e = .returned (.bool false) ∧ w' = w := by
  have hi : Calls Tryz.prog 68 #[.slice A 0 c, .string s] w fun e w' => e = .returned (.int .i64 (-1)) ∧ w' = w := by
    go_enter Tryz.func68, Tryz.ntmps68
    go_wp2
    go_loop [8] (fun i => i = .int .i64 0) (fun _ => 0)
    case atStart => rfl
    case round =>
      subst hrel
      go_wp2
      go_ret
      exact ⟨rfl, rfl⟩
  replace hi := Lib.hid hi
  go_enter Tryz.func54, Tryz.ntmps54
  go_wp2_with fail
  refine hi.out.mono ?_
  rintro e w1 ⟨rfl, rfl⟩
  go_wp2
  go_ret
  exact ⟨rfl, rfl⟩

set_option maxHeartbeats 1000000 in
theorem c_chIndex (g c : Nat) (w : World) : Calls Tryz.prog 56 #[.agg #[.slice (some ⟨g, 0, none⟩) 1 c, .int .i64 0, .slice none 0 0], .int .i64 0] w fun e w' => e = .returned (.bool true) ∧ Ext w w' := by
  go_enter Tryz.func56, Tryz.ntmps56
  go_wp2
  go_ret
  exact ⟨rfl, (Ext.refl w).alloc _⟩

def szI (s : ByteArray) : Int := if szB s then 0 else 1

set_option maxHeartbeats 2000000 in
theorem c_chCheck (s : ByteArray) (g : Nat) (w : World) (hB : Blk w g 9 #[.string s]) (hs : s.size ≤ maxLen) : Calls Tryz.prog 43 #[.agg #[.slice (some ⟨g, 0, none⟩) 1 1, .int .i64 0, .slice none 0 0]] w fun e w' => e = .returned (.int .i64 (szI s)) ∧ Ext w w' := by
  have hcs := Lib.hid (fun w => c_chSize s w hs)
  have hci := Lib.hid (fun w => c_chIndex g 1 w)
  obtain ⟨b0, _, lb⟩ := hB.parts1
  go_enter Tryz.func43, Tryz.ntmps43
  go_wp2_with fail
  obtain ⟨W, hW⟩ : ∃ W, W = w.alloc (.cells #[.slice (some ⟨g, 0, none⟩) 1 1, .int .i64 0, .slice none 0 0] 99) := ⟨_, rfl⟩
  have hX := Lib.hid (show Ext w W from hW ▸ (Ext.refl w).alloc _)
  have hC := Lib.hid (show Blk W w.heap.size 99 #[.slice (some ⟨g, 0, none⟩) 1 1, .int .i64 0, .slice none 0 0] from hW ▸ Blk.new _ _ _)
  rw [← hW]
  clear hW
  replace b0 := hX.out.cell b0
  replace lb : g < W.heap.size := World.block_lt_of_cell? _ _ b0
  obtain ⟨q0, q1, q2, _, _, _, lC⟩ := hC.out.parts3
  go_loop [28] (fun i => i = .int .i64 0 ∨ (i = .int .i64 1 ∧ Hid (szB s = true))) (fun i => 1 - (intOf i).toNat)
  case atStart => exact .inl rfl
  case round =>
    rcases hrel with rfl | ⟨rfl, hz⟩
    · go_wp2_with fail
      refine (hcs.out _).mono ?_
      rintro e w1 ⟨rfl, rfl⟩
      rcases hz : szB s with _ | _
      · have hi := Lib.hid (show szI s = 1 by unfold szI; rw [hz]; rfl)
        replace hz := Lib.hid hz
        go_wp2
        go_ret
        exact ⟨ret_int hi.out.symm, hX.out⟩
      · replace hz := Lib.hid hz
        go_wp2
        go_round
        case rel => exact .inr ⟨rfl, hz⟩
        case measure => simp [intOf]
    · have hi := Lib.hid (show szI s = 0 by unfold szI; rw [hz.out]; rfl)
      go_wp2
      go_loop [39] (fun i => i = .int .i64 0) (fun _ => 0)
      case atStart => rfl
      case round =>
        subst hrel
        go_wp2
        go_loop [69] (fun i => i = .int .i64 0 ∨ i = .int .i64 1) (fun i => 1 - (intOf i).toNat)
        case atStart => exact .inl rfl
        case round =>
          rcases hrel with rfl | rfl
          · go_wp2_with fail
            refine (c_containsS0 _ _ _ _).mono ?_
            rintro e w1 ⟨rfl, rfl⟩
            go_wp2
            go_round
            case rel => exact .inr rfl
            case measure => simp [intOf]
          · go_wp2
            go_loop [84] (fun i => i = .int .i64 0) (fun _ => 0)
            case atStart => rfl
            case round =>
              subst hrel
              go_wp2_with fail
              refine (hci.out _).mono ?_
              rintro e w1 ⟨rfl, hx⟩
              replace hx := Lib.hid hx
              go_wp2
              go_ret
              exact ⟨ret_int hi.out.symm, hX.out.trans hx.out⟩

set_option maxHeartbeats 1000000 in
theorem c_stSize (s : ByteArray) (w : World) (hs : s.size ≤ maxLen) : Calls Tryz.prog 29 #[.string s] w fun e w' => e = .returned (.bool (szB s)) ∧ Ext w w' := by
  have hc := Lib.hid (fun g w h => c_chCheck s g w h hs)
  go_enter Tryz.func29, Tryz.ntmps29
  go_wp2_with fail
  refine (hc.out w.heap.size _ (Blk.new w _ _)).mono ?_
  rintro e w1 ⟨rfl, hx⟩
  have hE := Lib.hid (((Ext.refl w).alloc (.cells #[.string s] 9)).trans hx)
  clear hx
  cases hz : szB s with
  | true =>
    have he : szI s = 0 := by unfold szI; rw [hz]; rfl
    rw [he]
    go_wp2
    go_ret
    exact ⟨ret_bool hz.symm, hE.out⟩
  | false =>
    have he : szI s = 1 := by unfold szI; rw [hz]; rfl
    rw [he]
    go_wp2
    go_ret
    exact ⟨ret_bool hz.symm, hE.out⟩

end Go.Proofs.YtiahfiopigjolaaGreat
