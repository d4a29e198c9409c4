/- Plain part of spec.Check. -/
import Derived.Test.YtiahfiopigjolaaGreatLng
namespace Go.Proofs.YtiahfiopigjolaaGreat

section
variable {s : St} {l : List Pm} {i : Nat}
/-- the shape that a point of measure is asked for -/
def PmShape (p : Pm) : Prop := nmB p.name ∧ p.edges.length = p.pieces.length ∧ p.pieces.length ≠ 0 ∧ p.pieces.length ≤ 16
theorem pomE_bad (hi : i < l.length) (h : ¬ PmShape l[i]) : pomE s l i = 1 := by unfold pomE; rw [nth_eq l hi]; exact if_neg h
theorem pomE_dup (hi : i < l.length) (h : PmShape l[i]) (h2 : upto (pomNameE l i) i = 7) : pomE s l i = 7 := by
  unfold PmShape at h; unfold pomE; rw [nth_eq l hi, if_pos h, h2, if_neg (by decide)]
theorem pomE_at (hi : i < l.length) (h : PmShape l[i]) (h2 : upto (pomNameE l i) i = 0) (h3 : upto (pomAtE s l[i]) l[i].pieces.length = 3) : pomE s l i = 3 := by
  unfold PmShape at h; unfold pomE; rw [nth_eq l hi, if_pos h, if_pos h2, h3, if_neg (by decide)]
theorem pomE_tol (hi : i < l.length) (h : PmShape l[i]) (h2 : upto (pomNameE l i) i = 0) (h3 : upto (pomAtE s l[i]) l[i].pieces.length = 0) (h4 : ¬ (0 ≤ l[i].plus ∧ l[i].plus ≤ 1073741824 ∧ 0 ≤ l[i].minus ∧ l[i].minus ≤ 1073741824)) : pomE s l i = 3 := by
  unfold PmShape at h; unfold pomE inR; rw [nth_eq l hi, if_pos h, if_pos h2, if_pos h3, if_neg]
  simp only [Bool.and_eq_true, decide_eq_true_eq]
  omega
theorem pomE_ok (hi : i < l.length) (h : PmShape l[i]) (h2 : upto (pomNameE l i) i = 0) (h3 : upto (pomAtE s l[i]) l[i].pieces.length = 0) (h4 : 0 ≤ l[i].plus ∧ l[i].plus ≤ 1073741824 ∧ 0 ≤ l[i].minus ∧ l[i].minus ≤ 1073741824) : pomE s l i = 0 := by
  unfold PmShape at h; unfold pomE inR; rw [nth_eq l hi, if_pos h, if_pos h2, if_pos h3, if_pos]
  simp only [Bool.and_eq_true, decide_eq_true_eq]
  omega
theorem pomNameE_hit {j : Nat} (hi : i < l.length) (hj : j < l.length) (h : l[j].name = l[i].name) : pomNameE l i j = 7 := by
  unfold pomNameE; rw [nth_eq l hi, nth_eq l hj, if_pos h]
theorem pomNameE_no {j : Nat} (hi : i < l.length) (hj : j < l.length) (h : ¬ l[j].name = l[i].name) : pomNameE l i j = 0 := by
  unfold pomNameE; rw [nth_eq l hi, nth_eq l hj, if_neg h]
theorem pomAtE_no {p : Pm} {k : Nat} (hk : k < p.pieces.length) (hk2 : k < p.edges.length) (h : edgeB s p.pieces[k] p.edges[k] = false) : pomAtE s p k = 3 := by
  unfold pomAtE; rw [nth_eq p.pieces hk, nth_eq p.edges hk2, h, if_neg (by decide)]
theorem pomAtE_ok {p : Pm} {k : Nat} (hk : k < p.pieces.length) (hk2 : k < p.edges.length) (h : edgeB s p.pieces[k] p.edges[k] = true) : pomAtE s p k = 0 := by
  unfold pomAtE; rw [nth_eq p.pieces hk, nth_eq p.edges hk2, h, if_pos (by decide)]
theorem specE_bad (h : ¬ styleE s = 0) : specE s l = styleE s := by unfold specE; rw [if_neg h]
theorem specE_many (h : styleE s = 0) (h2 : 16 < l.length) : specE s l = 5 := by unfold specE; rw [if_pos h, if_pos h2]
theorem specE_run (h : styleE s = 0) (h2 : ¬ 16 < l.length) : specE s l = upto (pomE s l) l.length := by unfold specE; rw [if_pos h, if_neg h2]
end

end Go.Proofs.YtiahfiopigjolaaGreat
