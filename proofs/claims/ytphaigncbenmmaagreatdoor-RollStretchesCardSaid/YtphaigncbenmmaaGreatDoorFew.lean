/- Few, few and SameZones of the reference and the laws. -/
import Derived.Test.YtphaigncbenmmaaGreatDoorBase
import Derived.Test.YtphaigncbenmmaaGreatDoorStp
namespace Go.Proofs.YtphaigncbenmmaaGreatDoor
open Go Go.RowKit

set_option maxHeartbeats 1000000 in
theorem c_Few (v : Value) (l : List Ro) (w : World) (h : RdR w v l) : Calls Tryz.prog 16 #[v] w fun e w' => e = .returned (.bool (fewL l)) ∧ w' = w := by
  obtain ⟨A, c, rfl, hcap, hmax, hc⟩ := h
  unfold maxLen at hmax
  replace hc := Lib.hid hc
  go_enter Tryz.func16, Tryz.ntmps16
  go_wp2
  go_loop [3] (fun i => ∃ k : Nat, k ≤ l.length ∧ i = .int .i64 k ∧ FewUp l k) (fun i => l.length - (intOf i).toNat)
  case atStart => exact ⟨0, Nat.zero_le _, rfl, FewUp.zero l⟩
  case round =>
    obtain ⟨k, hk, rfl, hup⟩ := hrel
    by_cases hlt : k < l.length
    · have hli : (k : Int) < l.length := by omega
      by_cases h30 : (k : Int) < 30
      · obtain ⟨b, o, fv, rfl, hf, c0, c1, c2, c3, c4, c5, c6⟩ := hc.out k hlt
        obtain ⟨Af, cf, rfl⟩ := hf.slice
        have hno := Lib.hid (show few1 l[k] = false → fewL l = false from fun h => few_no hlt h)
        have hyes := Lib.hid (show few1 l[k] = true → FewUp l (k + 1) from fun h => hup.next hlt h)
        have hdf := Lib.hid (show few1 l[k] = decide (l[k].fl.length ≤ 30 ∧ l[k].id.length ≤ 100) from rfl)
        have hsz : (ofB l[k].id).size = l[k].id.length := rfl
        replace hup := Lib.hid hup
        replace hf := Lib.hid hf
        by_cases h1 : 30 < l[k].fl.length
        · have hfn := Lib.hid (hno.out (by rw [hdf.out]; simp; omega))
          go_wp2
          go_ret
          exact ⟨ret_bool hfn.out.symm, rfl⟩
        · by_cases h2 : 100 < (ofB l[k].id).size
          · have hfn := Lib.hid (hno.out (by rw [hdf.out]; rw [hsz] at h2; simp; omega))
            go_wp2
            go_ret
            exact ⟨ret_bool hfn.out.symm, rfl⟩
          · have hup2 := Lib.hid (hyes.out (by rw [hdf.out]; rw [hsz] at h2; simp; omega))
            go_wp2
            go_round
            case rel => exact ⟨k + 1, by omega, by go_num, hup2.out⟩
            case measure => simp [intOf]; omega
      · have hd := Lib.hid (hup.done (by omega) hk)
        have hgt : ¬ (l.length : Int) ≤ 30 := by omega
        go_wp2
        go_ret
        exact ⟨ret_bool (by rw [hd.out]; simp; omega), rfl⟩
    · have hd := Lib.hid (hup.done (by omega) hk)
      have hnl : ¬ (k : Int) < l.length := by omega
      go_wp2
      go_ret
      exact ⟨ret_bool (by rw [hd.out]; simp; omega), rfl⟩

theorem rdR_one {w : World} {g : Nat} {r : Ro} {fv : Value} (h : Blk w g 26 (roC r fv).toArray) (hf : RdF w fv r.fl) : RdR w (.slice (some ⟨g, 0, none⟩) 1 1) [r] := by
  refine ⟨_, 1, rfl, by simp, by simp [maxLen], fun j hj => ?_⟩
  have hj : j < 1 := hj
  obtain rfl : j = 0 := by omega
  exact ⟨g, 0, fv, rfl, hf, h.cell 0, h.cell 1, h.cell 2, h.cell 3, h.cell 4, h.cell 5, h.cell 6⟩

set_option maxHeartbeats 1000000 in
theorem c_few (r : Ro) (fv : Value) (w : World) (h : RdF w fv r.fl) : Calls Tryz.prog 9 #[roV r fv] w fun e w' => e = .returned (.bool (few1 r)) ∧ Ext w w' := by
  obtain ⟨Af, cf, rfl⟩ := h.slice
  replace h := Lib.hid h
  unfold roV
  go_enter Tryz.func9, Tryz.ntmps9
  go_wp2_with fail
  refine (c_Few _ [r] _ (rdR_one (fv := .slice Af r.fl.length cf) (Blk.at (by simp)) (h.out.ext (((Ext.refl w).alloc _).alloc _)))).mono ?_
  rintro e w1 ⟨rfl, rfl⟩
  have : fewL [r] = few1 r := by unfold fewL; simp
  rw [this]
  go_wp2
  go_ret
  exact ⟨rfl, ((Ext.refl w).alloc _).alloc _⟩

set_option maxHeartbeats 1000000 in
theorem c_zones (v v' : Value) (l : List (Int × Int)) (w : World) (h : RdZ w v l) (h' : RdZ w v' l) : Calls Tryz.prog 21 #[v, v'] w fun e w' => e = .returned (.bool true) ∧ Ext w w' := by
  obtain ⟨A, c, rfl, hcap, hmax, hc⟩ := h
  obtain ⟨A', c', rfl, hcap', hmax', hc'⟩ := h'
  unfold maxLen at hmax hmax'
  replace hc := Lib.hid hc
  replace hc' := Lib.hid hc'
  go_enter Tryz.func21, Tryz.ntmps21
  go_wp2
  go_loopw [5] (fun i wr => ∃ k : Nat, k ≤ l.length ∧ i = .int .i64 (k : Nat) ∧ Ext w wr) (fun i _ => l.length - (intOf i).toNat)
  case atStart => exact ⟨0, Nat.zero_le _, rfl, Ext.refl _⟩
  case round =>
    obtain ⟨k, hk, rfl, hX⟩ := hrel
    by_cases hlt : k < l.length
    · obtain ⟨b, o, rfl, c0, c1⟩ := hc.out k hlt
      obtain ⟨b', o', rfl, c0', c1'⟩ := hc'.out k hlt
      replace c0 := hX.cell c0
      replace c1 := hX.cell c1
      replace c0' := hX.cell c0'
      replace c1' := hX.cell c1'
      replace hX := Lib.hid hX
      have hki : (k : Int) < l.length := by omega
      go_wp2_with fail
      go_quiet (fail)
      go_wp2
      go_roundw
      case rel => exact ⟨k + 1, by omega, by go_num, hX.out.drewN _⟩
      case measure => simp [intOf]; omega
    · replace hX := Lib.hid hX
      go_wp2
      go_ret
      exact ⟨rfl, hX.out⟩

end Go.Proofs.YtphaigncbenmmaaGreatDoor
