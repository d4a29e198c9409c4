/- Contracts of polygon.cross, on, parted, folded, meet; cmp.Compare. -/
import Derived.Test.YtiahfiopigjolaaGreatName
import Derived.BigQuiet
namespace Go.Proofs.YtiahfiopigjolaaGreat
open Go Go.RowKit

/-- a spot within the bounds of coordinates -/
structure InS (s : Sp) : Prop where
  x0 : -1048576 ≤ s.x
  x1 : s.x ≤ 1048576
  y0 : -1048576 ≤ s.y
  y1 : s.y ≤ 1048576
theorem inS_of {s : Sp} (h : outB s = false) : InS s := by
  unfold outB inR at h
  simp at h
  exact ⟨by omega, by omega, by omega, by omega⟩
theorem mul_in {a b : Int} (ha : -2097152 ≤ a) (ha' : a ≤ 2097152) (hb : -2097152 ≤ b) (hb' : b ≤ 2097152) : -4398046511104 ≤ a * b ∧ a * b ≤ 4398046511104 := by
  have h1 : a.natAbs ≤ 2097152 := by omega
  have h2 : b.natAbs ≤ 2097152 := by omega
  have h3 : (a * b).natAbs ≤ 2097152 * 2097152 := by rw [Int.natAbs_mul]; exact Nat.mul_le_mul h1 h2
  omega
def spV (s : Sp) : Value := .agg #[.int .i64 s.x, .int .i64 s.y]

set_option maxHeartbeats 1000000 in
theorem c_cross (a b c : Sp) (w : World) (ha : InS a) (hb : InS b) (hc : InS c) : Calls Tryz.prog 74 #[spV a, spV b, spV c] w fun e w' => e = .returned (.int .i64 (cross a b c)) ∧ Ext w w' := by
  obtain ⟨a0, a1, a2, a3⟩ := ha
  obtain ⟨b0, b1, b2, b3⟩ := hb
  obtain ⟨c0, c1, c2, c3⟩ := hc
  have m1 := mul_in (a := b.x - a.x) (b := c.y - a.y) (by omega) (by omega) (by omega) (by omega)
  have m2 := mul_in (a := b.y - a.y) (b := c.x - a.x) (by omega) (by omega) (by omega) (by omega)
  have hd := Lib.hid (show cross a b c = (b.x - a.x) * (c.y - a.y) - (b.y - a.y) * (c.x - a.x) from rfl)
  unfold spV
  go_enter Tryz.func74, Tryz.ntmps74
  go_wp2
  go_ret
  exact ⟨ret_int hd.out.symm, (((Ext.refl w).alloc _).alloc _).alloc _⟩

end Go.Proofs.YtiahfiopigjolaaGreat
