/- For every style, every list of points of measure and every number of a size, garmenttop.TopSpec returns true and leaves its arguments as they were: the measurements of a garment cut exactly as graded are within its specification, in every size, and congruent edges have equal targets. No conditions. -/
import Derived.Test.YtiahfiopigjolaaGreatOpen
namespace Go.Proofs.YtiahfiopigjolaaGreat
open Go Go.ChangeShapes Go.WideShapes Go.ChangeAt Go.RowKit Go.Deep

set_option maxRecDepth 100000 in
theorem topSpec_lifted (os : Os) (started : os.Started) (H : Type) (enc : TypeId × Value → H) :
    ReturnsInHanded {} Tryz.checked os 3 .any (Rows.topSpecSpec.pre6 enc Tryz.prog Tryz.f3 Rows.topSpecRow.domain false) (Rows.topSpecSpec.post enc Tryz.prog Tryz.f3 false true false false) := by
  refine returnsInHanded_of_change (C := Tryz.checked) own started (by kernel_rfl) Tryz.func3
    (ChangeSpec.witness6 (enc := enc) (C := Tryz.checked) false ⟨#[], #[.agg #[.string ⟨#[]⟩, .slice none 0 0, .slice none 0 0, .slice none 0 0, .slice none 0 0, .slice none 0 0, .slice none 0 0], .slice none 0 0, .int .u8 0], []⟩ 8 (by kernel_rfl) (by kernel_rfl) (by kernel_rfl) (by kernel_rfl)) ?_
  intro W base args ds gs before hval0 hW hcnd _
  have hval : ∀ (j : Nat) t v, Tryz.f3.params[j]? = some t → args[j]? = some v → Value.okWide Tryz.prog W .any base t v := hval0
  have hW' := hW
  obtain ⟨p, q, hA0, hV, rfl, hfz, hnd⟩ := hW
  have hA : DataW.TrodAll enc Tryz.prog W 0 (fun _ => true) true Tryz.f3.params.toList args.toList ds p := hA0
  have hAk := hA
  rw [Tryz.params3] at hA hval
  obtain ⟨v0, vs0, d0, ds0, p0, q0, hargs, rfl, rfl, h0, r0⟩ := trodAll_cons hA
  obtain ⟨v1, vs1, d1, ds1, p1, q1, rfl, rfl, rfl, h1, r1⟩ := trodAll_cons r0
  obtain ⟨v2, vs2, d2, ds2, p2, q2, rfl, rfl, rfl, h2, r2⟩ := trodAll_cons r1
  obtain ⟨rfl, rfl, rfl⟩ := trodAll_nil r2
  obtain rfl : args = #[v0, v1, v2] := by cases args; simp_all
  obtain ⟨rfl, rfl⟩ := trodVars_none hV
  obtain ⟨cs, rfl, hcs⟩ := okWide_struct Tryz.underlying29 (hval 0 29 v0 rfl rfl)
  obtain ⟨n0, t0⟩ := h0
  obtain ⟨s, w1, w2, w3, w4, w5, w6, hcse, hst⟩ := st_trod (cs := cs.toList) (by simpa [cellsStyle] using hcs) t0
  obtain rfl : cs = (stC s w1 w2 w3 w4 w5 w6).toArray := by rw [← hcse]
  obtain ⟨A1, len1, cap1, rfl⟩ := okWide_slice Tryz.underlying30 (hval 1 30 v1 rfl rfl)
  obtain ⟨n1, t1⟩ := h1
  obtain ⟨l, hl⟩ := Poms_trod (v := .slice A1 len1 cap1) ⟨_, rfl⟩ t1
  obtain ⟨a2, rfl, rfl, rfl, wa⟩ := open_int Tryz.underlying5 (hval 2 5 v2 rfl rfl) h2
  have ba := bounds_u8 wa
  obtain ⟨z, rfl⟩ : ∃ z : Nat, a2 = (z : Int) := ⟨a2.toNat, by omega⟩
  clear hA0 hval0
  simp only [List.append_nil] at hW' hAk
  refine (c_TopSpec s w1 w2 w3 w4 w5 w6 l _ z W hst hl (by omega)).mono fun e W' ⟨he, hx⟩ => ?_
  subst he
  exact ⟨_, rfl, post_true rfl rfl rfl (by rw [Tryz.params3]; decide) hW' hAk hx⟩

/-- For every input, TopSpec returns true. -/
theorem topSpec_holds : Rows.TopSpecSaid :=
  OpenClaim.holds_of_wide 3 Tryz.f3 rfl rfl rfl rfl rfl rfl rfl ⟨rfl, rfl, rfl, rfl, rfl⟩ rfl rfl rfl rfl rfl (by kernel_rfl) Tryz.func3 (by kernel_rfl)
    (of_decide_eq_true (by kernel_rfl)) (by unfold Func.isWrapper; rw [if_neg (of_decide_eq_false (by kernel_rfl))]; exact ⟨rfl, rfl⟩)
    (fun os started H enc _ => topSpec_lifted os started H enc)
end Go.Proofs.YtiahfiopigjolaaGreat
