/- Contract of style.checkPiece. -/
import Derived.Test.YtiahfiopigjolaaGreatNtp
import Derived.Test.YtiahfiopigjolaaGreatEdg
namespace Go.Proofs.YtiahfiopigjolaaGreat
open Go Go.RowKit

/-- checkPiece in plain Lean: a piece p after the pieces ys -/
def pcNm (p : Pc) (ys : List Pc) (j : Nat) : Int := if (nth ys j).name = p.name then 7 else 0
def pcE (p : Pc) (ys : List Pc) : Int :=
  if nmB p.name then
    (if grainB p.grain then
      (if upto (pcNm p ys) ys.length = 0 then
        (if gradeE p 0 = 0 then
          (if placedE p 0 = 0 then
            (if p.widths.length = p.edges.length then upto (widthE p.widths) p.widths.length else 1)
          else placedE p 0)
        else gradeE p 0)
      else 7)
    else 1)
  else 1
theorem pieceE_eq {l : List Pc} {i : Nat} (hi : i < l.length) : pieceE l i = pcE l[i] (l.take i) := by
  have hlen : (l.take i).length = i := by rw [List.length_take]; omega
  have hu : upto (pnameE l i) i = upto (pcNm l[i] (l.take i)) (l.take i).length := by
    rw [hlen]
    refine upto_congr fun k hk => ?_
    unfold pnameE pcNm
    rw [nth_eq l hi, nth_eq l (by omega), nth_eq (l.take i) (by omega), List.getElem_take]
  unfold pieceE pcE
  rw [nth_eq l hi, hu]
theorem pcE_name {p : Pc} {ys : List Pc} (h : nmB p.name = false) : pcE p ys = 1 := by unfold pcE; simp [h]
theorem pcE_grain {p : Pc} {ys : List Pc} (h : nmB p.name = true) (h2 : grainB p.grain = false) : pcE p ys = 1 := by unfold pcE; simp [h, h2]
theorem pcE_twice {p : Pc} {ys : List Pc} (h : nmB p.name = true) (h2 : grainB p.grain = true) (h3 : ¬ upto (pcNm p ys) ys.length = 0) : pcE p ys = 7 := by unfold pcE; simp [h, h2, h3]
theorem pcE_grade {p : Pc} {ys : List Pc} (h : nmB p.name = true) (h2 : grainB p.grain = true) (h3 : upto (pcNm p ys) ys.length = 0) (h4 : ¬ gradeE p 0 = 0) : pcE p ys = gradeE p 0 := by unfold pcE; simp [h, h2, h3, h4]
theorem pcE_placed {p : Pc} {ys : List Pc} (h : nmB p.name = true) (h2 : grainB p.grain = true) (h3 : upto (pcNm p ys) ys.length = 0) (h4 : gradeE p 0 = 0) (h5 : ¬ placedE p 0 = 0) : pcE p ys = placedE p 0 := by unfold pcE; simp [h, h2, h3, h4, h5]
theorem pcE_count {p : Pc} {ys : List Pc} (h : nmB p.name = true) (h2 : grainB p.grain = true) (h3 : upto (pcNm p ys) ys.length = 0) (h4 : gradeE p 0 = 0) (h5 : placedE p 0 = 0) (h6 : ¬ p.widths.length = p.edges.length) : pcE p ys = 1 := by unfold pcE; simp [h, h2, h3, h4, h5, h6]
theorem pcE_run {p : Pc} {ys : List Pc} (h : nmB p.name = true) (h2 : grainB p.grain = true) (h3 : upto (pcNm p ys) ys.length = 0) (h4 : gradeE p 0 = 0) (h5 : placedE p 0 = 0) (h6 : p.widths.length = p.edges.length) : pcE p ys = upto (widthE p.widths) p.widths.length := by unfold pcE; simp [h, h2, h3, h4, h5, h6]
theorem pcNm_hit {p : Pc} {ys : List Pc} {k : Nat} (hk : k < ys.length) (h : ys[k].name = p.name) : pcNm p ys k = 7 := by unfold pcNm; rw [nth_eq ys hk, if_pos h]
theorem pcNm_no {p : Pc} {ys : List Pc} {k : Nat} (hk : k < ys.length) (h : ¬ ys[k].name = p.name) : pcNm p ys k = 0 := by unfold pcNm; rw [nth_eq ys hk, if_neg h]
theorem widthE_no {l : List Int} {k : Nat} (hk : k < l.length) (h : l[k] < 0 ∨ 500 < l[k]) : widthE l k = 3 := by unfold widthE inR; rw [nth_eq l hk, if_neg (by simp; omega)]
theorem widthE_ok {l : List Int} {k : Nat} (hk : k < l.length) (h : ¬ (l[k] < 0 ∨ 500 < l[k])) : widthE l k = 0 := by unfold widthE inR; rw [nth_eq l hk, if_pos (by simp; omega)]

end Go.Proofs.YtiahfiopigjolaaGreat
