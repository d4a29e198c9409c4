/- SkillMatches walked. -/
import Derived.Test.YthfcllefmeoicaaRMat
namespace Go.Proofs.Ythfcllefmeoicaa
open Go.RowKit

set_option maxHeartbeats 1000000 in
theorem w_matches (v u : Value) (ws : List Wk) (needs : List Int) (w : World) (h : RdW w v ws) (g : RdI w u needs) :
    Calls Try.prog 4 #[v, u] w fun e w' => e = .returned (.bool true) ∧ Ext w w' := by
  have hh := Lib.hid h
  have gg := Lib.hid g
  cases hL : lightB ws needs.length with
  | false =>
    go_enter Try.func4, Try.ntmps4
    go_wp2_with fail
    refine (c_light _ _ ws needs _ hh.out gg.out).mono ?_
    rintro e w1 ⟨rfl, rfl⟩
    rw [hL]
    go_wp2_with fail
    refine (c_alive _).mono ?_
    rintro e w1 ⟨rfl, he⟩
    replace he := Lib.hid he
    go_wp2_with fail
    go_ret
    exact ⟨rfl, he.out⟩
  | true =>
    go_enter Try.func4, Try.ntmps4
    go_wp2_with fail
    refine (c_light _ _ ws needs _ hh.out gg.out).mono ?_
    rintro e w1 ⟨rfl, rfl⟩
    rw [hL]
    go_wp2_with fail
    refine (c_matchAny _ _ ws needs _ hh.out gg.out).mono ?_
    rintro e w1 ⟨r, rfl, hR, _, hE⟩
    replace hR := Lib.hid hR
    replace hE := Lib.hid hE
    go_wp2_with fail
    refine (c_refMatch _ _ ws needs _ (hh.out.ext hE.out) (gg.out.ext hE.out)).mono ?_
    rintro e w2 ⟨r2, rfl, hR2, hE2⟩
    replace hR := Lib.hid (hR.out.ext hE2)
    replace hR2 := Lib.hid hR2
    replace hE2 := Lib.hid (hE.out.trans hE2)
    go_wp2_with fail
    refine (c_same _ _ (mtL ws needs) (mtL ws needs) _ hR.out hR2.out).mono ?_
    rintro e w3 ⟨rfl, hE3⟩
    rw [show sameI (mtL ws needs) (mtL ws needs) = true by simp [sameI]]
    replace hE3 := Lib.hid (hE2.out.trans hE3)
    have hq : (askE ws needs == askE ws needs) = true := by simp
    go_wp2_with fail
    refine (c_alive _).mono ?_
    rintro e w4 ⟨rfl, he⟩
    replace he := Lib.hid (hE3.out.trans he)
    go_wp2_with fail
    go_ret
    exact ⟨rfl, he.out⟩
end Go.Proofs.Ythfcllefmeoicaa
