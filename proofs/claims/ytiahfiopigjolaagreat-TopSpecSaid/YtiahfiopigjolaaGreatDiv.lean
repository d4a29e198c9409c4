/- bits.Div64 answers some numbers where the quotient fits; seam.Partner answers some number or its error. -/
import Derived.Test.YtiahfiopigjolaaGreatShelf
import Derived.Test.YtiahfiopigjolaaGreatBase
import Derived.OpenShut
namespace Go.Proofs.YtiahfiopigjolaaGreat
open Go Go.RowKit

theorem bitLen_two : ∀ (n x : Nat), x ≤ n → 0 < x → x < 2 ^ 64 → 1 ≤ Lib.bitLen x ∧ 2 ^ (Lib.bitLen x - 1) ≤ x ∧ x < 2 ^ Lib.bitLen x
  | 0, x, h, h0, _ => by omega
  | n + 1, x, h, h0, h64 => by
    have hb := Lib.bitLen_half x (by omega) h64
    rcases Nat.lt_or_ge x 2 with h1 | h1
    · have : x = 1 := by omega
      subst this
      refine ⟨?_, ?_, ?_⟩ <;> decide
    · obtain ⟨h2, h3, h4⟩ := bitLen_two n (x / 2) (by omega) (by omega) (by omega)
      obtain ⟨b, hbe⟩ : ∃ b, Lib.bitLen (x / 2) = b + 1 := ⟨Lib.bitLen (x / 2) - 1, by omega⟩
      rw [hbe] at h3 h4 hb
      rw [hb]
      have e1 : b + 1 - 1 = b := by omega
      have e2 : 1 + (b + 1) - 1 = b + 1 := by omega
      have e3 : 1 + (b + 1) = (b + 1) + 1 := by omega
      rw [e1] at h3
      rw [e2, e3]
      have p1 : 2 ^ (b + 1) = 2 * 2 ^ b := by rw [Nat.pow_succ, Nat.mul_comm]
      have p2 : 2 ^ ((b + 1) + 1) = 2 * 2 ^ (b + 1) := by rw [Nat.pow_succ, Nat.mul_comm]
      omega
/-- a number shifted up until its highest bit is set -/
theorem shift_up {x : Nat} (h0 : 0 < x) (h64 : x < 2 ^ 64) : ∃ s, s ≤ 63 ∧ 64 - Lib.bitLen x = s ∧ Lib.bitLen x + s = 64 ∧ 2 ^ 63 ≤ x * 2 ^ s ∧ x * 2 ^ s < 2 ^ 64 := by
  obtain ⟨h1, h2, h3⟩ := bitLen_two x x (Nat.le_refl _) h0 h64
  have hle := Lib.bitLen_le x 64 (by omega) h64
  obtain ⟨b, hb⟩ : ∃ b, Lib.bitLen x = b + 1 := ⟨Lib.bitLen x - 1, by omega⟩
  rw [hb] at h2 h3 hle ⊢
  refine ⟨63 - b, by omega, by omega, by omega, ?_, ?_⟩
  · have e : 2 ^ 63 = 2 ^ (b + 1 - 1) * 2 ^ (63 - b) := by rw [← Nat.pow_add]; congr 1; omega
    rw [e]
    exact Nat.mul_le_mul_right _ h2
  · have e : 2 ^ 64 = 2 ^ (b + 1) * 2 ^ (63 - b) := by rw [← Nat.pow_add]; congr 1; omega
    rw [e]
    exact Nat.mul_lt_mul_of_pos_right h3 (Nat.two_pow_pos _)

/-- what a wrap or a bit operation comes to lies within the kind -/
theorem quo_rest (u n : Int) (h0 : 0 ≤ u) (hn : 1 ≤ n) : ∃ q p : Int, u / n = q ∧ q * n = p ∧ 0 ≤ q ∧ q ≤ u ∧ 0 ≤ u - p ∧ u - p < n ∧ 0 ≤ p := by
  refine ⟨u / n, u / n * n, rfl, rfl, Int.ediv_nonneg h0 (by omega), Int.ediv_le_self _ h0, ?_, ?_, Int.mul_nonneg (Int.ediv_nonneg h0 (by omega)) (by omega)⟩
  · have := Int.ediv_mul_le u (show n ≠ 0 by omega)
    omega
  · have := Int.lt_ediv_add_one_mul_self u (show 0 < n by omega)
    rw [Int.add_mul, Int.one_mul] at this
    omega

set_option maxRecDepth 100000 in
set_option maxHeartbeats 4000000 in
theorem c_div64 (hi lo y : Nat) (w : World) (h1 : hi < y) (hlo : lo < 18446744073709551616) (hy : y ≤ 1099511627776) : Calls Tryz.prog 72 #[.int .u64 hi, .int .u64 lo, .int .u64 y] w fun e w' => ∃ q r : Int, e = .returned (.tuple #[.int .u64 q, .int .u64 r]) ∧ Ext w w' := by
  have y0 : ((y : Int) == 0) = false := beq_eq_false_iff_ne.2 (by omega)
  have y1 : ¬ (y : Int) = 0 := by omega
  have y2 : ¬ y = 0 := by omega
  have y3 : ¬ (y : Int) ≤ hi := by omega
  obtain ⟨S, hS63, hS, hSb, hY0, hY1⟩ := shift_up (x := y) (by omega) (by omega)
  go_enter Tryz.func72, Tryz.ntmps72
  by_cases h0 : hi = 0
  · have z0 : ((hi : Int) == 0) = true := by rw [h0]; rfl
    go_wp2_with fail
    go_quiet (fail)
    go_wp2
    go_ret2
    exact ⟨_, _, rfl, (Ext.refl w).drewN _⟩
  · have z0 : ((hi : Int) == 0) = false := beq_eq_false_iff_ne.2 (by omega)
    go_wp2_with fail
    refine (Tryz.bits_LeadingZeros64 y _ (by omega) (by omega)).mono ?_
    rintro e w1 ⟨rfl, rfl⟩
    have hsI : 64 - (Lib.bitLen (y : Int).toNat : Int) = (S : Int) := by rw [Int.toNat_natCast]; omega
    rw [hsI]
    have hS1 : 1 ≤ S := by
      rcases Nat.eq_zero_or_pos S with e | e
      · subst e; omega
      · exact e
    obtain ⟨Y, hYd⟩ : ∃ Y, Y = y * 2 ^ S := ⟨_, rfl⟩
    rw [← hYd] at hY0 hY1
    have eY : (y : Int) * 2 ^ S = (Y : Int) := by rw [hYd]; norm_cast
    replace hYd := Lib.hid hYd
    obtain ⟨H, hH⟩ : ∃ H, IntKind.u64.wrap ((hi : Int) * 2 ^ S) = H := ⟨_, rfl⟩
    obtain ⟨L, hL⟩ : ∃ L, IntKind.u64.wrap ((lo : Int) * 2 ^ S) = L := ⟨_, rfl⟩
    obtain ⟨M, hM⟩ : ∃ M, (lo : Int) / 2 ^ (64 - S) = M := ⟨_, rfl⟩
    obtain ⟨U, hU⟩ : ∃ U, bits BinOp.or IntKind.u64 H M = U := ⟨_, rfl⟩
    obtain ⟨yl, hyl⟩ : ∃ v, bits BinOp.and IntKind.u64 (Y : Int) 4294967295 = v := ⟨_, rfl⟩
    obtain ⟨ll, hll⟩ : ∃ v, bits BinOp.and IntKind.u64 L 4294967295 = v := ⟨_, rfl⟩
    have bL : 0 ≤ L ∧ L ≤ 18446744073709551615 := hL ▸ bounds_u64 (wf_wrap .u64 _)
    have bU : 0 ≤ U ∧ U ≤ 18446744073709551615 := hU ▸ bounds_u64 (wf_bits .or .u64 _ _)
    obtain ⟨bU0, bU1⟩ := bU
    obtain ⟨bL0, bL1⟩ := bL
    obtain ⟨N, hN⟩ : ∃ N, (Y : Int) / 4294967296 = N := ⟨_, rfl⟩
    have hN0 : 2147483648 ≤ N := by omega
    have hN1 : N < 4294967296 := by omega
    have hNz : ¬ N = 0 := by omega
    have hNz2 : (N == 0) = false := beq_eq_false_iff_ne.2 hNz
    obtain ⟨Lh, hLh⟩ : ∃ v, L / 4294967296 = v := ⟨_, rfl⟩
    have hLh0 : 0 ≤ Lh := by omega
    have hLh1 : Lh < 4294967296 := by omega
    obtain ⟨Q1, P1, hQ1, hP1, g0, g1, g2, g3, g4⟩ := quo_rest U N bU0 (by omega)
    have hs64 : ¬ 64 ≤ S := by omega
    have hs65 : ¬ (64 : Int) ≤ S := by omega
    obtain ⟨A1, hA1⟩ : ∃ v, IntKind.u64.wrap (U * 4294967296) = v := ⟨_, rfl⟩
    obtain ⟨A2, hA2⟩ : ∃ v, IntKind.u64.wrap (A1 + Lh) = v := ⟨_, rfl⟩
    clear hS hSb hsI
    go_wp2
    go_loop [15, 16] (fun b t => ∃ x y : Int, b = .int .u64 x ∧ t = .int .u64 y ∧ 0 ≤ y ∧ y < 4294967296) (fun _ t => (4294967296 - intOf t).toNat)
    case atStart => exact ⟨_, _, rfl, rfl, by omega, by omega⟩
    case round =>
      obtain ⟨a, t, rfl, rfl, t0, t1⟩ := hrel
      obtain ⟨T1, hT1⟩ : ∃ v, IntKind.u64.wrap (a * yl) = v := ⟨_, rfl⟩
      obtain ⟨T2, hT2⟩ : ∃ v, IntKind.u64.wrap (4294967296 * t + Lh) = v := ⟨_, rfl⟩
      have wt : IntKind.u64.wrap (4294967296 * t) = 4294967296 * t := IntWalk.u64_in _ (by omega)
      have wn : IntKind.u64.wrap (t + N) = t + N := IntWalk.u64_in _ (by omega)
      obtain ⟨a1, ha1⟩ : ∃ v, IntKind.u64.wrap (a - 1) = v := ⟨_, rfl⟩
      by_cases k3 : 4294967296 ≤ t + N
      · by_cases k1 : 4294967296 ≤ a
        · obtain ⟨A3, hA3⟩ : ∃ v, IntKind.u64.wrap (a1 * (Y : Int)) = v := ⟨_, rfl⟩
          obtain ⟨V, hV⟩ : ∃ v, IntKind.u64.wrap (A2 - A3) = v := ⟨_, rfl⟩
          have bV : 0 ≤ V ∧ V ≤ 18446744073709551615 := hV ▸ bounds_u64 (wf_wrap .u64 _)
          obtain ⟨bV0, bV1⟩ := bV
          obtain ⟨Q2, P2, hQ2, hP2, c0, c1, c2, c3, c4⟩ := quo_rest V N bV0 (by omega)
          go_wp2
          go_loop [16, 18] (fun t b => ∃ x y : Int, b = .int .u64 x ∧ t = .int .u64 y ∧ 0 ≤ y ∧ y < 4294967296) (fun t _ => (4294967296 - intOf t).toNat)
          case atStart => exact ⟨_, _, rfl, rfl, by omega, by omega⟩
          case round =>
            obtain ⟨b, t, rfl, rfl, t0, t1⟩ := hrel
            obtain ⟨T1, hT1⟩ : ∃ v, IntKind.u64.wrap (b * yl) = v := ⟨_, rfl⟩
            obtain ⟨T2, hT2⟩ : ∃ v, IntKind.u64.wrap (4294967296 * t + ll) = v := ⟨_, rfl⟩
            have wt : IntKind.u64.wrap (4294967296 * t) = 4294967296 * t := IntWalk.u64_in _ (by omega)
            have wn : IntKind.u64.wrap (t + N) = t + N := IntWalk.u64_in _ (by omega)
            have hcase : (4294967296 ≤ b ∨ T2 < T1) ∨ (¬ 4294967296 ≤ b ∧ ¬ T2 < T1) := by omega
            rcases hcase with hcase | ⟨k1, k2⟩
            · rcases Decidable.em (4294967296 ≤ t + N) with k3 | k3
              · by_cases k1 : 4294967296 ≤ b
                · go_wp2
                  go_ret2
                  first | exact ⟨_, _, rfl, Ext.refl _⟩ | exact ⟨⟨_, _, rfl⟩, Ext.refl _⟩
                · have k2 : T2 < T1 := by omega
                  go_wp2
                  go_ret2
                  first | exact ⟨_, _, rfl, Ext.refl _⟩ | exact ⟨⟨_, _, rfl⟩, Ext.refl _⟩
              · by_cases k1 : 4294967296 ≤ b
                · go_wp2
                  go_round
                  case rel => exact ⟨_, _, rfl, rfl, by omega, by omega⟩
                  case measure => simp [intOf]; omega
                · have k2 : T2 < T1 := by omega
                  go_wp2
                  go_round
                  case rel => exact ⟨_, _, rfl, rfl, by omega, by omega⟩
                  case measure => simp [intOf]; omega
            · go_wp2
              go_ret2
              first | exact ⟨_, _, rfl, Ext.refl _⟩ | exact ⟨⟨_, _, rfl⟩, Ext.refl _⟩
        · by_cases k2 : T2 < T1
          · obtain ⟨A3, hA3⟩ : ∃ v, IntKind.u64.wrap (a1 * (Y : Int)) = v := ⟨_, rfl⟩
            obtain ⟨V, hV⟩ : ∃ v, IntKind.u64.wrap (A2 - A3) = v := ⟨_, rfl⟩
            have bV : 0 ≤ V ∧ V ≤ 18446744073709551615 := hV ▸ bounds_u64 (wf_wrap .u64 _)
            obtain ⟨bV0, bV1⟩ := bV
            obtain ⟨Q2, P2, hQ2, hP2, c0, c1, c2, c3, c4⟩ := quo_rest V N bV0 (by omega)
            go_wp2
            go_loop [16, 18] (fun t b => ∃ x y : Int, b = .int .u64 x ∧ t = .int .u64 y ∧ 0 ≤ y ∧ y < 4294967296) (fun t _ => (4294967296 - intOf t).toNat)
            case atStart => exact ⟨_, _, rfl, rfl, by omega, by omega⟩
            case round =>
              obtain ⟨b, t, rfl, rfl, t0, t1⟩ := hrel
              obtain ⟨T1, hT1⟩ : ∃ v, IntKind.u64.wrap (b * yl) = v := ⟨_, rfl⟩
              obtain ⟨T2, hT2⟩ : ∃ v, IntKind.u64.wrap (4294967296 * t + ll) = v := ⟨_, rfl⟩
              have wt : IntKind.u64.wrap (4294967296 * t) = 4294967296 * t := IntWalk.u64_in _ (by omega)
              have wn : IntKind.u64.wrap (t + N) = t + N := IntWalk.u64_in _ (by omega)
              have hcase : (4294967296 ≤ b ∨ T2 < T1) ∨ (¬ 4294967296 ≤ b ∧ ¬ T2 < T1) := by omega
              rcases hcase with hcase | ⟨k1, k2⟩
              · rcases Decidable.em (4294967296 ≤ t + N) with k3 | k3
                · by_cases k1 : 4294967296 ≤ b
                  · go_wp2
                    go_ret2
                    first | exact ⟨_, _, rfl, Ext.refl _⟩ | exact ⟨⟨_, _, rfl⟩, Ext.refl _⟩
                  · have k2 : T2 < T1 := by omega
                    go_wp2
                    go_ret2
                    first | exact ⟨_, _, rfl, Ext.refl _⟩ | exact ⟨⟨_, _, rfl⟩, Ext.refl _⟩
                · by_cases k1 : 4294967296 ≤ b
                  · go_wp2
                    go_round
                    case rel => exact ⟨_, _, rfl, rfl, by omega, by omega⟩
                    case measure => simp [intOf]; omega
                  · have k2 : T2 < T1 := by omega
                    go_wp2
                    go_round
                    case rel => exact ⟨_, _, rfl, rfl, by omega, by omega⟩
                    case measure => simp [intOf]; omega
              · go_wp2
                go_ret2
                first | exact ⟨_, _, rfl, Ext.refl _⟩ | exact ⟨⟨_, _, rfl⟩, Ext.refl _⟩
          · obtain ⟨A3, hA3⟩ : ∃ v, IntKind.u64.wrap (a * (Y : Int)) = v := ⟨_, rfl⟩
            obtain ⟨V, hV⟩ : ∃ v, IntKind.u64.wrap (A2 - A3) = v := ⟨_, rfl⟩
            have bV : 0 ≤ V ∧ V ≤ 18446744073709551615 := hV ▸ bounds_u64 (wf_wrap .u64 _)
            obtain ⟨bV0, bV1⟩ := bV
            obtain ⟨Q2, P2, hQ2, hP2, c0, c1, c2, c3, c4⟩ := quo_rest V N bV0 (by omega)
            go_wp2
            go_loop [16, 18] (fun t b => ∃ x y : Int, b = .int .u64 x ∧ t = .int .u64 y ∧ 0 ≤ y ∧ y < 4294967296) (fun t _ => (4294967296 - intOf t).toNat)
            case atStart => exact ⟨_, _, rfl, rfl, by omega, by omega⟩
            case round =>
              obtain ⟨b, t, rfl, rfl, t0, t1⟩ := hrel
              obtain ⟨T1, hT1⟩ : ∃ v, IntKind.u64.wrap (b * yl) = v := ⟨_, rfl⟩
              obtain ⟨T2, hT2⟩ : ∃ v, IntKind.u64.wrap (4294967296 * t + ll) = v := ⟨_, rfl⟩
              have wt : IntKind.u64.wrap (4294967296 * t) = 4294967296 * t := IntWalk.u64_in _ (by omega)
              have wn : IntKind.u64.wrap (t + N) = t + N := IntWalk.u64_in _ (by omega)
              have hcase : (4294967296 ≤ b ∨ T2 < T1) ∨ (¬ 4294967296 ≤ b ∧ ¬ T2 < T1) := by omega
              rcases hcase with hcase | ⟨k1, k2⟩
              · rcases Decidable.em (4294967296 ≤ t + N) with k3 | k3
                · by_cases k1 : 4294967296 ≤ b
                  · go_wp2
                    go_ret2
                    first | exact ⟨_, _, rfl, Ext.refl _⟩ | exact ⟨⟨_, _, rfl⟩, Ext.refl _⟩
                  · have k2 : T2 < T1 := by omega
                    go_wp2
                    go_ret2
                    first | exact ⟨_, _, rfl, Ext.refl _⟩ | exact ⟨⟨_, _, rfl⟩, Ext.refl _⟩
                · by_cases k1 : 4294967296 ≤ b
                  · go_wp2
                    go_round
                    case rel => exact ⟨_, _, rfl, rfl, by omega, by omega⟩
                    case measure => simp [intOf]; omega
                  · have k2 : T2 < T1 := by omega
                    go_wp2
                    go_round
                    case rel => exact ⟨_, _, rfl, rfl, by omega, by omega⟩
                    case measure => simp [intOf]; omega
              · go_wp2
                go_ret2
                first | exact ⟨_, _, rfl, Ext.refl _⟩ | exact ⟨⟨_, _, rfl⟩, Ext.refl _⟩
      · by_cases k1 : 4294967296 ≤ a
        · go_wp2
          go_round
          case rel => exact ⟨_, _, rfl, rfl, by omega, by omega⟩
          case measure => simp [intOf]; omega
        · by_cases k2 : T2 < T1
          · go_wp2
            go_round
            case rel => exact ⟨_, _, rfl, rfl, by omega, by omega⟩
            case measure => simp [intOf]; omega
          · obtain ⟨A3, hA3⟩ : ∃ v, IntKind.u64.wrap (a * (Y : Int)) = v := ⟨_, rfl⟩
            obtain ⟨V, hV⟩ : ∃ v, IntKind.u64.wrap (A2 - A3) = v := ⟨_, rfl⟩
            have bV : 0 ≤ V ∧ V ≤ 18446744073709551615 := hV ▸ bounds_u64 (wf_wrap .u64 _)
            obtain ⟨bV0, bV1⟩ := bV
            obtain ⟨Q2, P2, hQ2, hP2, c0, c1, c2, c3, c4⟩ := quo_rest V N bV0 (by omega)
            go_wp2
            go_loop [16, 18] (fun t b => ∃ x y : Int, b = .int .u64 x ∧ t = .int .u64 y ∧ 0 ≤ y ∧ y < 4294967296) (fun t _ => (4294967296 - intOf t).toNat)
            case atStart => exact ⟨_, _, rfl, rfl, by omega, by omega⟩
            case round =>
              obtain ⟨b, t, rfl, rfl, t0, t1⟩ := hrel
              obtain ⟨T1, hT1⟩ : ∃ v, IntKind.u64.wrap (b * yl) = v := ⟨_, rfl⟩
              obtain ⟨T2, hT2⟩ : ∃ v, IntKind.u64.wrap (4294967296 * t + ll) = v := ⟨_, rfl⟩
              have wt : IntKind.u64.wrap (4294967296 * t) = 4294967296 * t := IntWalk.u64_in _ (by omega)
              have wn : IntKind.u64.wrap (t + N) = t + N := IntWalk.u64_in _ (by omega)
              have hcase : (4294967296 ≤ b ∨ T2 < T1) ∨ (¬ 4294967296 ≤ b ∧ ¬ T2 < T1) := by omega
              rcases hcase with hcase | ⟨k1, k2⟩
              · rcases Decidable.em (4294967296 ≤ t + N) with k3 | k3
                · by_cases k1 : 4294967296 ≤ b
                  · go_wp2
                    go_ret2
                    first | exact ⟨_, _, rfl, Ext.refl _⟩ | exact ⟨⟨_, _, rfl⟩, Ext.refl _⟩
                  · have k2 : T2 < T1 := by omega
                    go_wp2
                    go_ret2
                    first | exact ⟨_, _, rfl, Ext.refl _⟩ | exact ⟨⟨_, _, rfl⟩, Ext.refl _⟩
                · by_cases k1 : 4294967296 ≤ b
                  · go_wp2
                    go_round
                    case rel => exact ⟨_, _, rfl, rfl, by omega, by omega⟩
                    case measure => simp [intOf]; omega
                  · have k2 : T2 < T1 := by omega
                    go_wp2
                    go_round
                    case rel => exact ⟨_, _, rfl, rfl, by omega, by omega⟩
                    case measure => simp [intOf]; omega
              · go_wp2
                go_ret2
                first | exact ⟨_, _, rfl, Ext.refl _⟩ | exact ⟨⟨_, _, rfl⟩, Ext.refl _⟩
end Go.Proofs.YtiahfiopigjolaaGreat
