/- Contract of seam.Partner: some number, or its error. -/
import Derived.Test.YtiahfiopigjolaaGreatDiv
import Derived.Test.YtiahfiopigjolaaGreatMod
namespace Go.Proofs.YtiahfiopigjolaaGreat
open Go Go.RowKit

/-- how Partner ends -/
def PtOut (fr to at_ : Int) (w : World) (e : Ending) (w' : World) : Prop := ((partnerOk fr to at_ = true ∧ ∃ y : Int, e = .returned (.tuple #[.int .i64 y, .int .i64 0])) ∨ (partnerOk fr to at_ = false ∧ e = .returned (.tuple #[.int .i64 0, .int .i64 3]))) ∧ Ext w w'
theorem ptOk_no {fr to at_ : Int} (h : fr < 1 ∨ 1099511627776 < fr ∨ to < 0 ∨ 1099511627776 < to ∨ at_ < 0 ∨ fr < at_) : partnerOk fr to at_ = false := by
  unfold partnerOk inR
  rw [Bool.eq_false_iff]
  intro h2
  simp at h2
  omega
theorem ptOk_yes {fr to at_ : Int} (h : ¬ (fr < 1 ∨ 1099511627776 < fr ∨ to < 0 ∨ 1099511627776 < to ∨ at_ < 0 ∨ fr < at_)) : partnerOk fr to at_ = true := by
  unfold partnerOk inR
  simp
  omega

set_option maxHeartbeats 2000000 in
theorem c_partner (fr to at_ : Int) (w : World) : Calls Tryz.prog 57 #[.int .i64 fr, .int .i64 to, .bool false, .int .i64 at_] w (PtOut fr to at_ w) := by
  go_enter Tryz.func57, Tryz.ntmps57
  by_cases hbad : fr < 1 ∨ 1099511627776 < fr ∨ to < 0 ∨ 1099511627776 < to ∨ at_ < 0 ∨ fr < at_
  · have hno := Lib.hid (ptOk_no hbad)
    by_cases h1 : fr < 1
    · go_wp2
      go_ret2
      exact ⟨.inr ⟨hno.out, rfl⟩, Ext.refl w⟩
    by_cases h2 : 1099511627776 < fr
    · go_wp2
      go_ret2
      exact ⟨.inr ⟨hno.out, rfl⟩, Ext.refl w⟩
    by_cases h3 : to < 0
    · go_wp2
      go_ret2
      exact ⟨.inr ⟨hno.out, rfl⟩, Ext.refl w⟩
    by_cases h4 : 1099511627776 < to
    · go_wp2
      go_ret2
      exact ⟨.inr ⟨hno.out, rfl⟩, Ext.refl w⟩
    by_cases h5 : at_ < 0
    · go_wp2
      go_ret2
      exact ⟨.inr ⟨hno.out, rfl⟩, Ext.refl w⟩
    · have h6 : fr < at_ := by omega
      go_wp2
      go_ret2
      exact ⟨.inr ⟨hno.out, rfl⟩, Ext.refl w⟩
  · have hyes := Lib.hid (ptOk_yes hbad)
    obtain ⟨F, rfl⟩ : ∃ F : Nat, fr = (F : Int) := ⟨fr.toNat, by omega⟩
    obtain ⟨T, rfl⟩ : ∃ T : Nat, to = (T : Int) := ⟨to.toNat, by omega⟩
    obtain ⟨X, rfl⟩ : ∃ X : Nat, at_ = (X : Int) := ⟨at_.toNat, by omega⟩
    have b1 : 1 ≤ F := by omega
    have b2 : F ≤ 1099511627776 := by omega
    have b3 : T ≤ 1099511627776 := by omega
    have b4 : X ≤ F := by omega
    clear hbad
    have hhi : X * T / 18446744073709551616 < F := by
      refine Nat.div_lt_of_lt_mul ?_
      have e1 : X * T ≤ F * 1099511627776 := Nat.mul_le_mul b4 b3
      omega
    have hlo : X * T % 18446744073709551616 < 18446744073709551616 := Nat.mod_lt _ (by omega)
    obtain ⟨hi, hhie⟩ : ∃ h, h = X * T / 18446744073709551616 := ⟨_, rfl⟩
    obtain ⟨lo, hloe⟩ : ∃ h, h = X * T % 18446744073709551616 := ⟨_, rfl⟩
    have hcm := Lib.hid (fun w => Tryz.bits_Mul64 X T (by omega) (by omega) w)
    rw [← hhie, ← hloe] at hcm
    rw [← hhie] at hhi
    rw [← hloe] at hlo
    clear hhie hloe
    have hcd := Lib.hid (fun w => c_div64 hi lo F w hhi hlo b2)
    go_wp2_with fail
    refine (hcm.out _).mono ?_
    rintro e w1 ⟨rfl, rfl⟩
    go_wp2_with fail
    refine (hcd.out _).mono ?_
    rintro e w2 ⟨q, r, rfl, hx⟩
    replace hx := Lib.hid hx
    go_wp2
    all_goals
      go_ret2
      exact ⟨.inl ⟨hyes.out, _, rfl⟩, hx.out⟩

end Go.Proofs.YtiahfiopigjolaaGreat
