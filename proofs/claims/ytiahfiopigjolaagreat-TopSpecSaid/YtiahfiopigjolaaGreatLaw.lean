/- What the checks of styles and of points of measure say, in plain Lean. -/
import Derived.Test.YtiahfiopigjolaaGreatGrd
namespace Go.Proofs.YtiahfiopigjolaaGreat

theorem pass_of {f : Nat → Int} {n : Nat} (h : ∀ k, k < n → f k = 0) : upto f n = 0 := upto_all h

/-- what a style without an error is asked for -/
structure StOk (s : St) : Prop where
  sizes : 0 < s.sizes.length
  mults : s.mults.length = s.sizes.length
  zs : s.sizes.length ≤ 12
  ps : s.pieces.length ≤ 12
  ss : s.seams.length ≤ 24
  seam : ∀ k (h : k < s.seams.length), edgeB s s.seams[k].pa s.seams[k].ea = true ∧ edgeB s s.seams[k].pb s.seams[k].eb = true
theorem stOk_of {s : St} (h : styleE s = 0) : StOk s := by
  unfold styleE at h
  split at h
  · rename_i hw
    split at h
    · split at h
      · have hs : ∀ k (hk : k < s.seams.length), edgeB s s.seams[k].pa s.seams[k].ea = true ∧ edgeB s s.seams[k].pb s.seams[k].eb = true := by
          intro k hk
          have h1 := upto_zero h k hk
          unfold seamE at h1
          rw [nth_eq s.seams hk] at h1
          split at h1
          · rename_i h2
            simpa using h2
          · omega
        unfold wholeE at hw
        split at hw
        · rename_i h0
          split at hw
          · split at hw
            · rename_i h2
              split at hw
              · split at hw
                · omega
                · split at hw
                  · omega
                  · rename_i h3 h4
                    have hne : s.sizes ≠ [] := by
                      have := h0
                      simp at this
                      exact this.2
                    exact ⟨List.length_pos_iff.2 hne, h2.1, by omega, by omega, by omega, hs⟩
              · omega
            · omega
          · omega
        · omega
      · omega
    · rename_i h1
      exact absurd h h1
  · rename_i h1
    exact absurd h h1

/-- an edge that is there -/
theorem edgeB_nat {s : St} {p e : Int} (h : edgeB s p e = true) : ∃ (a b : Nat) (ha : a < s.pieces.length), p = (a : Int) ∧ e = (b : Int) ∧ b < s.pieces[a].edges.length := by
  unfold edgeB inR at h
  simp only [Bool.and_eq_true, decide_eq_true_eq] at h
  obtain ⟨⟨h1, h2⟩, h3, h4⟩ := h
  have ha : p.toNat < s.pieces.length := by omega
  rw [nth_eq s.pieces ha] at h4
  exact ⟨p.toNat, e.toNat, ha, by omega, by omega, by omega⟩

/-- what a point of measure without an error is asked for -/
structure PmOk (s : St) (p : Pm) : Prop where
  name : nmB p.name = true
  len : p.edges.length = p.pieces.length
  one : 0 < p.pieces.length
  few : p.pieces.length ≤ 16
  at_ : ∀ k, k < p.pieces.length → edgeB s (nth p.pieces k) (nth p.edges k) = true
  p0 : 0 ≤ p.plus
  p1 : p.plus ≤ 1073741824
  m0 : 0 ≤ p.minus
  m1 : p.minus ≤ 1073741824
theorem pmOk_iff {s : St} {l : List Pm} {i : Nat} (h : pomE s l i = 0) : PmOk s (nth l i) ∧ upto (pomNameE l i) i = 0 := by
  unfold pomE at h
  split at h
  · rename_i h1
    split at h
    · rename_i h2
      split at h
      · rename_i h3
        split at h
        · rename_i h4
          unfold inR at h4
          simp only [Bool.and_eq_true, decide_eq_true_eq] at h4
          refine ⟨⟨h1.1, h1.2.1, by omega, h1.2.2.2, fun k hk => ?_, h4.1.1, h4.1.2, h4.2.1, h4.2.2⟩, h2⟩
          have h5 := upto_zero h3 k hk
          unfold pomAtE at h5
          split at h5
          · assumption
          · omega
        · omega
      · omega
    · omega
  · omega
theorem pomE_one {s : St} {p : Pm} (h : PmOk s p) : pomE s [p] 0 = 0 := by
  have hn : nth [p] 0 = p := rfl
  unfold pomE
  rw [hn, if_pos ⟨h.name, h.len, by have := h.one; omega, h.few⟩, if_pos (by rfl), if_pos, if_pos]
  · unfold inR
    simp only [Bool.and_eq_true, decide_eq_true_eq]
    exact ⟨⟨h.p0, h.p1⟩, h.m0, h.m1⟩
  · refine upto_all fun k hk => ?_
    unfold pomAtE
    rw [if_pos (h.at_ k hk)]
theorem specE_one {s : St} {p : Pm} (hs : styleE s = 0) (h : PmOk s p) : specE s [p] = 0 := by
  unfold specE
  rw [if_pos hs, if_neg (by simp)]
  show upto (pomE s [p]) 1 = 0
  rw [upto, if_pos (by rfl)]
  exact pomE_one h
theorem specE_style {s : St} {l : List Pm} (h : specE s l = 0) : styleE s = 0 := by
  unfold specE at h
  split at h
  · assumption
  · exact h
theorem specE_few {s : St} {l : List Pm} (h : specE s l = 0) : l.length ≤ 16 := by
  unfold specE at h
  split at h
  · split at h
    · omega
    · omega
  · rename_i h1; exact absurd h h1
theorem specE_at {s : St} {l : List Pm} (h : specE s l = 0) {i : Nat} (hi : i < l.length) : PmOk s l[i] := by
  have h0 := specE_style h
  unfold specE at h
  rw [if_pos h0] at h
  split at h
  · omega
  · have h1 := (pmOk_iff (upto_zero h i hi)).1
    rwa [nth_eq l hi] at h1
/-- the point of one edge -/
def onePm (name : ByteArray) (p e : Int) : Pm := ⟨name, [p], [e], 0, 0⟩
theorem onePm_ok {s : St} {n : ByteArray} {p e : Int} (hn : nmB n = true) (h : edgeB s p e = true) : PmOk s (onePm n p e) where
  name := hn
  len := rfl
  one := by simp [onePm]
  few := by simp [onePm]
  at_ := fun k hk => by
    have hk : k < 1 := hk
    obtain rfl : k = 0 := by omega
    exact h
  p0 := by simp [onePm]
  p1 := by simp [onePm]
  m0 := by simp [onePm]
  m1 := by simp [onePm]

/-- the lengths that are added up for a target lie in 0 .. 40 * 2^32 -/
theorem target_in {s : St} {p : Pm} {m : Int} (h : PmOk s p) {k : Nat} (hk : k < p.pieces.length) (hg : targetAtE s p m k = 0) : 0 ≤ targetAt s p m k ∧ targetAt s p m k ≤ 171798691840 := by
  obtain ⟨a, b, ha, ea, eb, hb⟩ := edgeB_nat (h.at_ k hk)
  unfold targetAtE at hg
  unfold targetAt
  rw [ea, Int.toNat_natCast, nth_eq s.pieces ha] at hg
  rw [ea, eb, Int.toNat_natCast, nth_eq s.pieces ha]
  have hok := olOk_of (l := gradedL s.pieces[a] m) (by
    unfold gradeE at hg
    split at hg
    · split at hg
      · split at hg
        · split at hg
          · exact hg
          · rename_i h4; exact absurd hg h4
        · omega
      · omega
    · omega)
  have hb2 : b < (gradedL s.pieces[a] m).length := by unfold gradedL; simpa using hb
  unfold lineAt
  rw [Int.toNat_natCast, nth_eq _ hb2]
  exact plLen_in (hok.line b hb2)
theorem targetN_in {s : St} {p : Pm} {m : Int} (h : PmOk s p) : ∀ {k : Nat}, k ≤ p.pieces.length → upto (targetAtE s p m) k = 0 → 0 ≤ sumTo (targetAt s p m) k ∧ sumTo (targetAt s p m) k ≤ 171798691840 * k := by
  intro k hk hu
  refine sumTo_in fun j hj => target_in h (by omega) (upto_zero hu j hj)
theorem targetN_one (s : St) (n : ByteArray) (p e m : Int) : targetN s (onePm n p e) m = plLen (lineAt (gradedL (nth s.pieces p.toNat) m) e) := by
  unfold targetN onePm
  show sumTo _ 1 = _
  rw [sumTo, sumTo]
  simp [targetAt, nth]
theorem targetE_one (s : St) (n : ByteArray) (p e m : Int) : targetE s (onePm n p e) m = gradeE (nth s.pieces p.toNat) m := by
  unfold targetE onePm
  show upto _ 1 = _
  rw [upto, if_pos (by rfl)]
  simp [targetAtE, nth]

end Go.Proofs.YtiahfiopigjolaaGreat
