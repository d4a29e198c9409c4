/- The contracts of the reference's members, left, Cover; SkillCovers walked. -/
import Derived.Test.YthfcllefmeoicaaRMat
namespace Go.Proofs.Ythfcllefmeoicaa
open Go.RowKit
attribute [local go_sem ↓] Go.wp_at_zero Go.wp_at_succ

set_option maxHeartbeats 1000000 in
theorem c_members (b n : Nat) (w : World) (hb : b ≤ 4096) (hn : n ≤ 12) : Calls Try.prog 41 #[.int .i64 b, .int .i64 n] w fun e w' => ∃ r, e = .returned r ∧ RdI w' r (memC (bitC n b) n) ∧ Ext w w' := by
  go_enter Try.func41, Try.ntmps41
  go_wp2_with fail
  go_loopw [5, 6] (fun x i wr => ∃ k : Nat, k ≤ n ∧ i = .int .i64 k ∧ OwnL .i64 3 w.heap.size wr x (memC (bitC n b) k) ∧ Ext w wr) (fun _ i _ => n - (intOf i).toNat)
  case atStart => exact ⟨0, Nat.zero_le _, rfl, OwnL.nil _ _ _ _, Ext.refl _⟩
  case round =>
    obtain ⟨k, hk, rfl, hown, hext⟩ := hrel
    obtain ⟨A, cap, rfl⟩ := hown.slice
    replace hown := Lib.hid hown
    replace hext := Lib.hid hext
    by_cases hlt : k < n
    · have hS := Lib.hid (memC_succ (bitC n b) k)
      have hbc : bitC n b k = b.testBit k := by unfold bitC; simp [hlt]
      cases hck : b.testBit k with
      | true =>
        rw [hck] at hbc
        replace hbc := Lib.hid hbc
        go_wp2_with (first
          | (go_at_call 35; refine (c_has b k _ hb (by omega)).mono ?_; rintro e w1 ⟨rfl, rfl⟩; rw [hck])
          | (at_builtin; refine wpList_app1 rfl (.tmp 15) (.tmp 17) 26 rfl .i64 3 w.heap.size 8 Try.underlying26 info3 (by decide) _ (memC (bitC n b) k) k wr.heap.size 1 rfl (hown.out.alloc _) rfl ?_ ?_ ?_ ?_; (simp); (have := memC_length (bitC n b) k; omega); (have := hext.out.size; simp; omega); (intro A' cap' w' ho hg hat)))
        go_roundw
        case rel => exact ⟨k + 1, by omega, by go_num, by rw [hS.out, hbc.out, if_pos rfl]; exact ho, (hown.out.alloc _).extGrown (hext.out.alloc _) (Nat.le_refl _) hg⟩
        case measure => simp [intOf]; omega
      | false =>
        rw [hck] at hbc
        replace hbc := Lib.hid hbc
        go_wp2_with (go_at_call 35; refine (c_has b k _ hb (by omega)).mono ?_; rintro e w1 ⟨rfl, rfl⟩; rw [hck])
        go_roundw
        case rel => exact ⟨k + 1, by omega, by go_num, by rw [hS.out, hbc.out]; simpa using hown.out, hext.out⟩
        case measure => simp [intOf]; omega
    · have hkn : k = n := by omega
      go_wp2_with fail
      go_ret
      subst hkn
      exact ⟨_, rfl, hown.out.rdI, hext.out⟩

/-- a worker below j, outside of the set b, can fill need k -/
def opn (cs : List (Nat → Bool)) (b k j : Nat) : Bool := (List.range j).any fun x => !b.testBit x && csAt cs k x
theorem opn_succ (cs : List (Nat → Bool)) (b k j : Nat) : opn cs b k (j + 1) = (opn cs b k j || (!b.testBit j && csAt cs k j)) := by
  unfold opn; rw [List.range_succ, List.any_append]; simp
theorem opn_full {cs : List (Nat → Bool)} {n b k : Nat} (hn : n ≤ 12) (hc : ∀ j, csAt cs k j = true → j < n) : opn cs b k n = openN cs (bitC n b) k 12 := by
  unfold opn openN
  rw [Bool.eq_iff_iff, List.any_eq_true, List.any_eq_true]
  constructor
  · rintro ⟨x, hx, h⟩
    simp at hx h
    exact ⟨x, by simp; omega, by unfold bitC; simp [h.1, h.2]⟩
  · rintro ⟨x, hx, h⟩
    simp at hx h
    have hxn := hc x h.1
    refine ⟨x, by simpa using hxn, ?_⟩
    have h2 := h.2
    unfold bitC at h2
    simp [hxn] at h2
    simp [h.1, h2]

set_option maxRecDepth 100000 in
set_option maxHeartbeats 2000000 in
theorem c_left (v u : Value) (ws : List Wk) (needs : List Int) (b : Nat) (w : World) (h : RdW w v ws) (g : RdI w u needs) (h12 : ws.length ≤ 12) (h16 : needs.length ≤ 16) (hb : b ≤ 4096) :
    Calls Try.prog 42 #[v, u, .int .i64 b] w fun e w' => ∃ r, e = .returned r ∧ RdI w' r (uncM (setsW ws needs) (bitC ws.length b) needs.length) ∧ Ext w w' := by
  obtain ⟨A, cap, rfl, hcap, hmax, hc⟩ := h
  obtain ⟨B, capB, rfl, hcapB, hmaxB, hd⟩ := g
  unfold maxLen at hmax hmaxB
  replace hc := Lib.hid hc
  replace hd := Lib.hid hd
  have hable := Lib.hid (show ∀ k (hk : k < needs.length) j (hj : j < ws.length), csAt (setsW ws needs) k j = memI needs[k] ws[j].mach from fun k hk j hj => able_at hk hj)
  have hin := Lib.hid (show ∀ i j, csAt (setsW ws needs) i j = true → j < ws.length from fun i j hx => by obtain ⟨_, hi, _⟩ := able_of hx; exact hi)
  generalize setsW ws needs = cs at *
  go_enter Try.func42, Try.ntmps42
  go_wp2_with fail
  go_loopw [7, 8, 9, 10] (fun x i u9 u10 wr => ∃ k : Nat, k ≤ needs.length ∧ i = .int .i64 k ∧ OwnL .i64 3 w.heap.size wr x (uncM cs (bitC ws.length b) k) ∧ Ext w wr) (fun _ i _ _ _ => needs.length - (intOf i).toNat)
  case atStart => exact ⟨0, Nat.zero_le _, rfl, OwnL.nil _ _ _ _, Ext.refl _⟩
  case round =>
    obtain ⟨k, hk, rfl, hown, hext⟩ := hrel
    obtain ⟨Ao, capo, rfl⟩ := hown.slice
    replace hown := Lib.hid hown
    replace hext := Lib.hid hext
    have hul := memC_length (fun k => openN cs (bitC ws.length b) k 12) k
    by_cases hlt : k < needs.length
    · obtain ⟨wo, rfl⟩ : ∃ wo : World, wo = wr := ⟨_, rfl⟩
      have hfull := Lib.hid (opn_full (b := b) h12 (hin.out k))
      have hS := Lib.hid (memC_succ (fun k => openN cs (bitC ws.length b) k 12) k)
      go_wp2_with fail
      go_loopw [9, 10] (fun x i wr => ∃ j : Nat, j ≤ ws.length ∧ i = .int .i64 j ∧ x = .bool (opn cs b k j) ∧ Ext wo wr) (fun _ i _ => ws.length - (intOf i).toNat)
      case atStart => exact ⟨0, Nat.zero_le _, rfl, rfl, Ext.refl _⟩
      case round =>
        obtain ⟨j, hj, rfl, rfl, hX⟩ := hrel
        replace hX := Lib.hid hX
        by_cases hjl : j < ws.length
        · obtain ⟨b2, o2, mv, rfl, hwn, hwm, hwr, _⟩ := hc.out j hjl
          obtain ⟨b3, o3, rfl, hcn⟩ := hd.out k hlt
          have hXw := Lib.hid (hext.out.trans hX.out)
          replace hwn := hXw.out.cell hwn
          replace hwm := hXw.out.cell hwm
          replace hcn := hXw.out.cell hcn
          have hb2 : b2 < wr.heap.size := World.block_lt_of_cell? wr _ hwn
          have hb3 : b3 < wr.heap.size := World.block_lt_of_cell? wr _ hcn
          obtain ⟨MA, mcap, rfl⟩ := hwr.nat
          have hrr := Lib.hid (hwr.ext hXw.out)
          have hNN : wr.heap.size ≤ wr.heap.size := Nat.le_refl _
          have k0 : (0 : Int) ≤ (j : Int) := by omega
          have k1 : (j : Int) < (ws.length : Int) := by omega
          have k2 : (0 : Int) ≤ (k : Int) := by omega
          have k3 : (k : Int) < (needs.length : Int) := by omega
          have hcs := Lib.hid (hable.out k hlt j hjl)
          have hst := Lib.hid (opn_succ cs b k j)
          clear hwr
          cases hop : opn cs b k j with
          | true =>
            have hnx := Lib.hid (show opn cs b k (j + 1) = true by rw [hst.out, hop]; rfl)
            go_wp2_with fail
            go_quiet (fail)
            go_wp2_with fail
            go_roundw
            case rel => exact ⟨j + 1, by omega, by go_num, by rw [hnx.out], hX.out.drewN _⟩
            case measure => simp [intOf]; omega
          | false =>
            cases hbit : b.testBit j with
            | true =>
              have hq := Lib.hid (show ∀ n, Calls Try.prog 35 #[.int .i64 b, .int .i64 j] (wr.drewN n) (fun e w' => e = .returned (.bool true) ∧ wr.drewN n = w') from fun n => by
                have hcl := c_has b j (wr.drewN n) (by omega) (by omega)
                rw [hbit] at hcl
                exact hcl)
              have hnx := Lib.hid (show opn cs b k (j + 1) = false by rw [hst.out, hop, hbit]; rfl)
              clear hbit
              go_wp2_with fail
              go_quiet ((go_at_call 35; exact quietS (hq.out _)))
              go_wp2_with fail
              go_roundw
              case rel => exact ⟨j + 1, by omega, by go_num, by rw [hnx.out], hX.out.drewN _⟩
              case measure => simp [intOf]; omega
            | false =>
              have hhas := Lib.hid (show ∀ W, Calls Try.prog 35 #[.int .i64 b, .int .i64 j] W (fun e w' => e = .returned (.bool false) ∧ W = w') from fun W => by
                have hcl := c_has b j W (by omega) (by omega)
                rw [hbit] at hcl
                exact hcl)
              have hnx := Lib.hid (show opn cs b k (j + 1) = memI needs[k] ws[j].mach by rw [hst.out, hop, hbit, hcs.out]; simp)
              clear hbit
              cases hcan : memI needs[k] ws[j].mach with
              | true =>
                have hcanc := Lib.hid (show ∀ W, RdI W (.slice MA ws[j].mach.length mcap) ws[j].mach → Calls Try.prog 14 #[.agg #[.string ws[j].name, .slice MA ws[j].mach.length mcap], .int .i64 needs[k]] W fun e w' => e = .returned (.bool true) ∧ Ext W w' from fun W h => by
                  have := c_refcan ws[j].name (.slice MA ws[j].mach.length mcap) needs[k] ws[j].mach W h
                  rwa [hcan] at this)
                rw [hcan] at hnx
                clear hcan
                go_wp2_with fail
                go_region_held3 (fun w' => (∀ b o, b < wr.heap.size → w'.cell? ⟨b, o, none⟩ = wr.cell? ⟨b, o, none⟩) ∧ Kp wr.heap.size wr w')
                  (first
                    | exact (Kp.start hNN).drew.both
                    | (go_split_ands; exact ((by assumption : Kp _ _ _).call he).both)
                    | assumption)
                  (first
                    | (go_at_call 35; (with_reducible refine (hhas.out _).mono ?_); rintro e w3 ⟨rfl, rfl⟩)
                    | (go_at_call 14; go_split_ands; refine (hcanc.out _ (hrr.out.ext ((by assumption : Kp _ _ _).ext (Ext.refl _) (Nat.le_refl _)))).mono ?_; rintro e w2 ⟨rfl, he⟩))
                go_wp2_with fail
                go_roundw
                case rel => exact ⟨j + 1, by omega, by go_num, by rw [hnx.out], hX.out.drew.trans he⟩
                case measure => simp [intOf]; omega
              | false =>
                have hcanc := Lib.hid (show ∀ W, RdI W (.slice MA ws[j].mach.length mcap) ws[j].mach → Calls Try.prog 14 #[.agg #[.string ws[j].name, .slice MA ws[j].mach.length mcap], .int .i64 needs[k]] W fun e w' => e = .returned (.bool false) ∧ Ext W w' from fun W h => by
                  have := c_refcan ws[j].name (.slice MA ws[j].mach.length mcap) needs[k] ws[j].mach W h
                  rwa [hcan] at this)
                rw [hcan] at hnx
                clear hcan
                go_wp2_with fail
                go_region_held3 (fun w' => (∀ b o, b < wr.heap.size → w'.cell? ⟨b, o, none⟩ = wr.cell? ⟨b, o, none⟩) ∧ Kp wr.heap.size wr w')
                  (first
                    | exact (Kp.start hNN).drew.both
                    | (go_split_ands; exact ((by assumption : Kp _ _ _).call he).both)
                    | assumption)
                  (first
                    | (go_at_call 35; (with_reducible refine (hhas.out _).mono ?_); rintro e w3 ⟨rfl, rfl⟩)
                    | (go_at_call 14; go_split_ands; refine (hcanc.out _ (hrr.out.ext ((by assumption : Kp _ _ _).ext (Ext.refl _) (Nat.le_refl _)))).mono ?_; rintro e w2 ⟨rfl, he⟩))
                go_wp2_with fail
                go_roundw
                case rel => exact ⟨j + 1, by omega, by go_num, by rw [hnx.out], hX.out.drew.trans he⟩
                case measure => simp [intOf]; omega
        · have hjn : j = ws.length := by omega
          have hO := Lib.hid (hown.out.ext hX.out)
          have hXt := Lib.hid (hext.out.trans hX.out)
          cases hop : opn cs b k j with
          | true =>
            have hyes := Lib.hid (show uncM cs (bitC ws.length b) (k + 1) = uncM cs (bitC ws.length b) k ++ [(k : Int)] by
              unfold uncM; rw [hS.out, ← hfull.out, ← hjn, hop, if_pos rfl])
            clear hjn
            go_wp2_with (at_builtin; refine wpList_app1 rfl (.tmp 42) (.tmp 44) 26 rfl .i64 3 w.heap.size 8 Try.underlying26 info3 (by decide) _ (uncM cs (bitC ws.length b) k) k wr.heap.size 1 rfl (hO.out.alloc _) rfl ?_ ?_ ?_ ?_; (simp); (unfold uncM; omega); (have := hXt.out.size; simp; omega); (intro A2 cap2 w2 ho hg hat))
            go_roundw
            case rel => exact ⟨k + 1, by omega, by go_num, by rw [hyes.out]; exact ho, (hO.out.alloc _).extGrown (hXt.out.alloc _) (Nat.le_refl _) hg⟩
            case measure => simp [intOf]; omega
          | false =>
            have hno := Lib.hid (show uncM cs (bitC ws.length b) (k + 1) = uncM cs (bitC ws.length b) k by
              unfold uncM; rw [hS.out, ← hfull.out, ← hjn, hop]; rfl)
            clear hjn
            go_wp2_with fail
            go_roundw
            case rel => exact ⟨k + 1, by omega, by go_num, by rw [hno.out]; exact hO.out, hXt.out⟩
            case measure => simp [intOf]; omega
    · have hkn : k = needs.length := by omega
      go_wp2_with fail
      go_ret
      subst hkn
      exact ⟨_, rfl, hown.out.rdI, hext.out⟩
end Go.Proofs.Ythfcllefmeoicaa
