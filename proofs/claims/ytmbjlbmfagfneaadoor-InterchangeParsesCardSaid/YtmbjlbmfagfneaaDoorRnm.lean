/- number and inRange of the reference. -/
import Derived.Test.YtmbjlbmfagfneaaDoorAwk
import Derived.Laws.IdiomStrings
namespace Go.Proofs.YtmbjlbmfagfneaaDoor
open Go Go.RowKit

theorem itoa_nat (u : Nat) : Lib.itoa (u : Int) = Lib.decDigits u := by
  unfold Lib.itoa
  rw [if_neg (by omega), Int.toNat_natCast]
theorem itoa_neg {n : Int} (h : n < 0) : Lib.itoa n = 45 :: Lib.itoa (-n) := by
  obtain ⟨u, hu⟩ : ∃ u : Nat, -n = (u : Nat) := ⟨(-n).toNat, by omega⟩
  rw [hu, itoa_nat]
  unfold Lib.itoa
  rw [if_pos h, show n.natAbs = u by omega]
theorem itoa_ten {u : Nat} (h : ¬ u < 10) : Lib.itoa (u : Int) = Lib.itoa ((u / 10 : Nat) : Int) ++ Lib.itoa ((u % 10 : Nat) : Int) := by
  rw [itoa_nat, itoa_nat, itoa_nat, decDigits_big h, decDigits_small (u := u % 10) (by omega)]

theorem u8_in {n : Int} (h : 0 ≤ n ∧ n ≤ 255) : IntKind.u8.wrap n = n := by rw [IntKind.wrap_u8]; omega

set_option maxRecDepth 20000 in
set_option maxHeartbeats 1000000 in
theorem c_rnumN : ∀ (u : Nat) (w : World), u ≤ 1048576 → Calls Tryd.prog 25 #[.int .i64 (u : Nat)] w fun e w' => e = .returned (.string (ofB (Lib.itoa (u : Nat)))) ∧ Ext w w' := by
  intro u
  induction u using Nat.strongRecOn with
  | _ u ih =>
    intro w hu
    by_cases h10 : u < 10
    · have hd := Lib.hid (show Lib.itoa (u : Int) = [UInt8.ofNat (48 + u)] by rw [itoa_nat, decDigits_small h10])
      clear ih
      have hbt : ((UInt8.ofNat (48 + u)).toNat : Int) = 48 + (u : Int) := by
        have : (UInt8.ofNat (48 + u)).toNat = 48 + u := by simp; omega
        omega
      have hw8 : IntKind.u8.wrap (48 + (u : Int)) = 48 + (u : Int) := u8_in (by omega)
      have hcb := run_convert_bytes_back (P := Tryd.prog) (w.alloc (.cells #[.int .u8 (48 + (u : Int))] 5)) 49 9 5 ⟨w.heap.size, 0, none⟩ 1 [UInt8.ofNat (48 + u)] Tryd.underlying49 Tryd.underlying5 Tryd.underlying9 (fun j hj => by
        have hj : j < 1 := hj
        obtain rfl : j = 0 := by omega
        rw [addr_add0, (Blk.new w 5 _).cell]
        show some (Value.int .u8 (48 + (u : Int))) = some (Value.int .u8 ((UInt8.ofNat (48 + u)).toNat : Int))
        rw [hbt])
      simp only [List.length_cons, List.length_nil] at hcb
      replace hbt := Lib.hid hbt
      go_enter Tryd.func25, Tryd.ntmps25
      go_wp2
      go_ret
      refine ⟨?_, (Ext.refl w).alloc _⟩
      rw [hd.out]
      have e8 : (48 : UInt8) + UInt8.ofNat u = UInt8.ofNat (48 + u) := by rw [UInt8.ofNat_add]; rfl
      show Ending.returned (Value.string ⟨#[48 + UInt8.ofNat u]⟩) = _
      rw [e8]; rfl
    · have hd := Lib.hid (itoa_ten h10)
      have ih1 := Lib.hid (ih (u / 10) (by omega))
      have ih2 := Lib.hid (ih (u % 10) (by omega))
      clear ih
      go_enter Tryd.func25, Tryd.ntmps25
      go_wp2_with fail
      rw [show ((u : Int) / 10) = ((u / 10 : Nat) : Int) by omega]
      refine (ih1.out w (by omega)).mono ?_
      rintro e w1 ⟨rfl, hx1⟩
      replace hx1 := Lib.hid hx1
      have h1 := itoa_len (n := ((u / 10 : Nat) : Int)) (by omega) (by omega)
      have h2 := itoa_len (n := ((u % 10 : Nat) : Int)) (by omega) (by omega)
      obtain ⟨X, hX⟩ : ∃ X, X = ofB (Lib.itoa ((u / 10 : Nat) : Int)) := ⟨_, rfl⟩
      rw [← ofB_size, ← hX] at h1
      rw [← hX]
      replace hX := Lib.hid hX
      go_wp2_with fail
      rw [show ((u : Int) % 10) = ((u % 10 : Nat) : Int) by omega]
      refine (ih2.out w1 (by omega)).mono ?_
      rintro e w2 ⟨rfl, hx2⟩
      replace hx2 := Lib.hid hx2
      obtain ⟨Y, hY⟩ : ∃ Y, Y = ofB (Lib.itoa ((u % 10 : Nat) : Int)) := ⟨_, rfl⟩
      rw [← ofB_size, ← hY] at h2
      rw [← hY]
      have z1 : ¬ 9223372036854775807 < X.size + Y.size := by omega
      have hXY := Lib.hid (show X ++ Y = ofB (Lib.itoa (u : Int)) by rw [hX.out, hY, ofB_app, ← hd.out])
      clear hX hY
      go_wp2
      go_ret
      exact ⟨by rw [← hXY.out]; rfl, hx1.out.trans hx2.out⟩

set_option maxHeartbeats 1000000 in
theorem c_rnum (n : Int) (w : World) (h : -1048576 ≤ n ∧ n ≤ 1048576) : Calls Tryd.prog 25 #[.int .i64 n] w fun e w' => e = .returned (.string (ofB (Lib.itoa n))) ∧ Ext w w' := by
  by_cases h0 : n < 0
  · obtain ⟨u, hu⟩ : ∃ u : Nat, -n = (u : Nat) := ⟨(-n).toNat, by omega⟩
    have hn : n = -(u : Int) := by omega
    have hd := Lib.hid (show ⟨#[45]⟩ ++ ofB (Lib.itoa (u : Int)) = ofB (Lib.itoa n) by rw [itoa_neg h0, hu]; exact ofB_app [45] _)
    have hnn : -n = (u : Int) := hu
    replace hu := Lib.hid hu
    have z1 : ¬ 9223372036854775807 < 1 + (ofB (Lib.itoa (u : Int))).size := by
      have h1 := itoa_len (n := (u : Int)) (by omega) (by omega)
      rw [ofB_size]; omega
    go_enter Tryd.func25, Tryd.ntmps25
    go_wp2_with fail
    refine (c_rnumN u _ (by omega)).mono ?_
    rintro e w1 ⟨rfl, hx1⟩
    replace hx1 := Lib.hid hx1
    obtain ⟨Y, hY⟩ : ∃ Y, Y = ofB (Lib.itoa (u : Int)) := ⟨_, rfl⟩
    rw [← hY] at z1 hd ⊢
    clear hY
    go_wp2
    go_ret
    exact ⟨by rw [← hd.out]; rfl, hx1.out⟩
  · obtain ⟨u, rfl⟩ : ∃ u : Nat, n = (u : Nat) := ⟨n.toNat, by omega⟩
    exact c_rnumN u w (by omega)

end Go.Proofs.YtmbjlbmfagfneaaDoor
