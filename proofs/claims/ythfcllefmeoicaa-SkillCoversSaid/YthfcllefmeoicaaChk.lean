/- Contracts of the checks of workers: skill.Check, garmentref47.Check. -/
import Derived.Test.YthfcllefmeoicaaName
namespace Go.Proofs.Ythfcllefmeoicaa
open Go.RowKit

/-- the first error of a list of machines, some having come before -/
def machE (before : List Int) : List Int → Int
  | [] => 0
  | m :: r => if isM m then (if memI m before then 7 else machE (before ++ [m]) r) else 3
/-- an earlier worker has this name -/
def hasName (before : List Wk) (s : ByteArray) : Bool := before.any fun x => x.name.toList == s.toList
/-- the error of a worker behind some others -/
def wkE (before : List Wk) (x : Wk) : Int := if nmB x.name then (if hasName before x.name then 7 else machE [] x.mach) else 1
/-- the first error of workers, some having come before -/
def errsW (before : List Wk) : List Wk → Int
  | [] => 0
  | x :: r => if wkE before x = 0 then errsW (before ++ [x]) r else wkE before x
/-- the first error of a list of workers -/
def chkW (ws : List Wk) : Int := if 12 < ws.length then 5 else errsW [] ws

theorem errsW_step (ws : List Wk) (k : Nat) (h : k < ws.length) : errsW (ws.take k) (ws.drop k) = if wkE (ws.take k) ws[k] = 0 then errsW (ws.take (k + 1)) (ws.drop (k + 1)) else wkE (ws.take k) ws[k] := by
  rw [List.drop_eq_getElem_cons h, errsW, take_snoc ws k h]
theorem machE_step (xs : List Int) (k : Nat) (h : k < xs.length) : machE (xs.take k) (xs.drop k) = if isM xs[k] then (if memI xs[k] (xs.take k) then 7 else machE (xs.take (k + 1)) (xs.drop (k + 1))) else 3 := by
  rw [List.drop_eq_getElem_cons h, machE, take_snoc xs k h]
theorem hasName_snoc (ws : List Wk) (k : Nat) (h : k < ws.length) (s : ByteArray) : hasName (ws.take (k + 1)) s = (hasName (ws.take k) s || (ws[k].name.toList == s.toList)) := by
  unfold hasName
  rw [take_snoc ws k h, List.any_append]; simp only [List.any_cons, List.any_nil, Bool.or_false]
theorem hasName_hit {ws : List Wk} {k j : Nat} (hj : j < k) (hk : k ≤ ws.length) {s : ByteArray} (h : (ws[j].name.toList == s.toList) = true) : hasName (ws.take k) s = true := by
  unfold hasName
  rw [List.any_eq_true]
  exact ⟨ws[j], by rw [List.mem_take_iff_getElem]; exact ⟨j, by omega, rfl⟩, h⟩

/-- the machines that have come, as the array 'seen' -/
def seenA (xs : List Int) : Array Value := #[.bool (memI 0 xs), .bool (memI 1 xs), .bool (memI 2 xs), .bool (memI 3 xs), .bool (memI 4 xs), .bool (memI 5 xs), .bool (memI 6 xs), .bool (memI 7 xs)]

theorem isM_cases {m : Int} (h : isM m = true) : m = 0 ∨ m = 1 ∨ m = 2 ∨ m = 3 ∨ m = 4 ∨ m = 5 ∨ m = 6 ∨ m = 7 := by
  simp [isM] at h; omega
theorem memI_app (n m : Int) (xs : List Int) : memI n (xs ++ [m]) = (memI n xs || n == m) := by
  rw [Bool.eq_iff_iff]; simp [memI]
theorem seenA_set (xs : List Int) (m : Int) (h : isM m = true) : (seenA xs).setIfInBounds m.toNat (.bool true) = seenA (xs ++ [m]) := by
  rcases isM_cases h with rfl | rfl | rfl | rfl | rfl | rfl | rfl | rfl <;> simp [seenA, memI_app]
theorem seenA_get (xs : List Int) (m : Int) (h : isM m = true) : (seenA xs)[m.toNat]? = some (.bool (memI m xs)) := by
  rcases isM_cases h with rfl | rfl | rfl | rfl | rfl | rfl | rfl | rfl <;> simp [seenA]

set_option maxHeartbeats 2000000 in
theorem c_skCheck (v : Value) (ws : List Wk) (w : World) (h : RdW w v ws) :
    Calls Try.prog 15 #[v] w fun e w' => e = .returned (.int .i64 (chkW ws)) ∧ Ext w w' := by
  obtain ⟨A, cap, rfl, hcap, hmax, hc⟩ := h
  unfold maxLen at hmax
  by_cases h12 : 12 < ws.length
  · go_enter Try.func15, Try.ntmps15
    go_wp2
    go_ret
    exact ⟨ret_int (by simp [chkW, h12]), Ext.refl _⟩
  have h12' : decide (12 < (ws.length : Int)) = false := by simp; omega
  have hchk := Lib.hid (show chkW ws = errsW [] ws by simp [chkW, h12])
  go_enter Try.func15, Try.ntmps15
  go_wp2
  go_loopw [15] (fun i wr => ∃ k : Nat, k ≤ ws.length ∧ i = .int .i64 k ∧ Hid (chkW ws = errsW (ws.take k) (ws.drop k)) ∧ Ext w wr) (fun i _ => ws.length - (intOf i).toNat)
  case atStart => exact ⟨0, Nat.zero_le _, rfl, hchk, Ext.refl _⟩
  case round =>
    obtain ⟨k, hk, rfl, HK, hext⟩ := hrel
    by_cases hlt : k < ws.length
    · obtain ⟨b, o, mv, rfl, hn, hm, hr, hsz⟩ := hc k hlt
      obtain ⟨MA, mcap, rfl, mh1, mh2, mh3⟩ := hr
      unfold maxLen at mh2
      have hn := hext.cell hn
      have hm := hext.cell hm
      obtain ⟨wo, rfl⟩ : ∃ wo : World, wo = wr := ⟨_, rfl⟩
      have hst := errsW_step ws k hlt
      cases hnm : nmB ws[k].name with
      | false =>
        have hE : (nmE ws[k].name != 0) = true := by simp [nmE, hnm]
        have hfin := Lib.hid (show chkW ws = 1 by rw [HK.out, hst]; simp [wkE, hnm])
        clear hst
        go_wp2_with (go_at_call 27; refine (c_fCheck _ _ hsz).mono ?_; rintro e w1 ⟨rfl, he⟩; have he := Lib.hid he)
        go_ret
        exact ⟨ret_int hfin.out.symm, (hext.alloc _).trans he.out⟩
      | true =>
        have hE : (nmE ws[k].name != 0) = false := by simp [nmE, hnm]
        have hst := Lib.hid hst
        go_wp2_with (go_at_call 27; refine (c_fCheck _ _ hsz).mono ?_; rintro e w1 ⟨rfl, he⟩; have hB := (Blk.new wo 28 #[.string ws[k].name, .slice MA ws[k].mach.length mcap]).ext he; have hX := Lib.hid ((hext.alloc (.cells #[.string ws[k].name, .slice MA ws[k].mach.length mcap] 28)).trans he); have he := Lib.hid he)
        go_loopw [29] (fun i wr => ∃ j : Nat, j ≤ k ∧ i = .int .i64 j ∧ Hid (hasName (ws.take j) ws[k].name = false) ∧ Ext w1 wr) (fun i _ => k - (intOf i).toNat)
        case atStart => exact ⟨0, Nat.zero_le _, rfl, Lib.hid (by simp [hasName]), Ext.refl _⟩
        case round =>
          obtain ⟨j, hj, rfl, HJ, hext2⟩ := hrel
          by_cases hjk : j < k
          · obtain ⟨b', o', mv', hA', hn', hm', hr', hsz'⟩ := hc j (by omega)
            obtain ⟨rfl, rfl⟩ : b = b' ∧ o = o' := by simpa using hA'
            obtain ⟨MA', mcap', rfl, _, _, _⟩ := hr'
            have hn' := hext2.cell (hX.out.cell hn')
            have hm' := hext2.cell (hX.out.cell hm')
            obtain ⟨hb0, hb1, hb2, hb3, hb4⟩ := (hB.ext hext2).parts2
            clear hA'
            go_wp2_with fail
            · have heq : (ws[j].name.toList == ws[k].name.toList) = true := by assumption
              go_ret
              refine ⟨ret_int ?_, (hX.out.trans hext2).alloc _⟩
              rw [HK.out, hst.out]
              simp [wkE, hnm, hasName_hit hjk (by omega) heq]
            · rename_i heq
              go_roundw
              case rel => exact ⟨j + 1, by omega, by go_num, Lib.hid (by rw [hasName_snoc ws j (by omega), HJ.out, heq]; rfl), hext2.alloc _⟩
              case measure => simp [intOf]; omega
          · have hjk' : j = k := by omega
            have HJk : hasName (ws.take k) ws[k].name = false := by have e := HJ.out; rwa [hjk'] at e
            have hnone := Lib.hid (show wkE (ws.take k) ws[k] = machE [] ws[k].mach by rw [wkE, hnm, if_pos rfl, HJk]; simp)
            clear HJk
            obtain ⟨hb0, hb1, hb2, hb3, hb4⟩ := (hB.ext hext2).parts2
            obtain ⟨wj, rfl⟩ : ∃ wj : World, wj = wr := ⟨_, rfl⟩
            have hXj := Lib.hid (hX.out.trans hext2)
            clear hjk'
            go_wp2_with fail
            go_loopw [42] (fun i wr => ∃ m : Nat, m ≤ ws[k].mach.length ∧ i = .int .i64 m ∧ Hid (machE [] ws[k].mach = machE (ws[k].mach.take m) (ws[k].mach.drop m)) ∧ Blk wr wj.heap.size 51 (seenA (ws[k].mach.take m)) ∧ Ext wj wr) (fun i _ => ws[k].mach.length - (intOf i).toNat)
            case atStart => exact ⟨0, Nat.zero_le _, rfl, Lib.hid (by simp), Blk.new _ _ _, (Ext.refl _).alloc _⟩
            case round =>
              obtain ⟨m, hm', rfl, HM, hsn, hext3⟩ := hrel
              by_cases hmlt : m < ws[k].mach.length
              · obtain ⟨b2, o2, rfl, hcell⟩ := mh3 m hmlt
                have hcell := hext3.cell (hXj.out.cell hcell)
                have hms := machE_step ws[k].mach m hmlt
                cases hM : isM ws[k].mach[m] with
                | false =>
                  have hfin := Lib.hid (show chkW ws = 3 by rw [HK.out, hst.out, hnone.out, HM.out, hms, hM]; simp)
                  clear hms
                  go_wp2_with (go_at_call 28; refine (c_isMachine _ _).mono ?_; rintro e w1 ⟨rfl, rfl⟩; rw [hM])
                  go_ret
                  exact ⟨ret_int hfin.out.symm, hXj.out.trans hext3⟩
                | true =>
                  have hget := hsn.cell ws[k].mach[m].toNat
                  rw [seenA_get _ _ hM] at hget
                  have hfz := hsn.frozen ws[k].mach[m].toNat
                  have hbd : 0 ≤ ws[k].mach[m] ∧ ws[k].mach[m] < 8 := by simpa [isM] using hM
                  obtain ⟨hbd1, hbd2⟩ := hbd
                  have hsn := Lib.hid hsn
                  cases hS : memI ws[k].mach[m] (ws[k].mach.take m) with
                  | true =>
                    have hfin := Lib.hid (show chkW ws = 7 by rw [HK.out, hst.out, hnone.out, HM.out, hms, hM, hS]; simp)
                    clear hms
                    rw [hS] at hget
                    go_wp2_with (go_at_call 28; refine (c_isMachine _ _).mono ?_; rintro e w1 ⟨rfl, rfl⟩; rw [hM])
                    go_ret
                    exact ⟨ret_int hfin.out.symm, hXj.out.trans hext3⟩
                  | false =>
                    have hms := Lib.hid hms
                    rw [hS] at hget
                    go_wp2_with (go_at_call 28; refine (c_isMachine _ _).mono ?_; rintro e w1 ⟨rfl, rfl⟩; rw [hM])
                    go_roundw
                    case rel => exact ⟨m + 1, by omega, by go_num, Lib.hid (by rw [HM.out, hms.out, hM, hS]; simp), by rw [take_snoc _ m hmlt, ← seenA_set _ _ hM]; exact hsn.out.set_ _ _, hext3.setCell (by simp) _⟩
                    case measure => simp [intOf]; omega
              · go_wp2
                go_roundw
                case rel =>
                  refine ⟨k + 1, by omega, by go_num, Lib.hid ?_, hXj.out.trans hext3⟩
                  have h0 : wkE (ws.take k) ws[k] = 0 := by rw [hnone.out, HM.out, List.drop_of_length_le (by omega)]; rfl
                  rw [HK.out, hst.out, if_pos h0]
                case measure => simp [intOf]; omega
    · go_wp2
      go_ret
      refine ⟨ret_int ?_, hext⟩
      rw [HK.out, List.drop_of_length_le (by omega)]; rfl
end Go.Proofs.Ythfcllefmeoicaa
