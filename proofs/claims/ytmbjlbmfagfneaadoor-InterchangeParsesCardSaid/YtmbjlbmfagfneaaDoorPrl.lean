/- The text of a marker, piece by piece as it is written. -/
import Derived.Test.YtmbjlbmfagfneaaDoorNum
namespace Go.Proofs.YtmbjlbmfagfneaaDoor
open Go Go.RowKit

theorem glue_join : ∀ (t : B) (l : List Int), glue 32 (t :: l.map Lib.itoa) = joinL t l
  | t, [] => by simp [glue, joinL]
  | t, n :: l => by
    have ih := glue_join (Lib.itoa n) l
    rw [List.map_cons, glue, ih]
    unfold joinL
    rw [List.flatMap_cons]; simp

theorem glue_app : ∀ (a b : List B), a ≠ [] → b ≠ [] → glue 32 (a ++ b) = glue 32 a ++ 32 :: glue 32 b
  | [], _, h, _ => absurd rfl h
  | [w], b, _, hb => by rw [List.singleton_append, glue_cons _ _ hb]; rfl
  | w :: v :: r, b, _, hb => by
    rw [List.cons_append, glue_cons _ _ (by simp), glue_app (v :: r) b (by simp) hb, glue]
    simp

theorem headL_join (m : Mk) : headL m = joinL Tmarker [m.len, m.wid, m.rx, m.ry] := glue_join _ _
theorem sizesL_join (m : Mk) : sizesL m = joinL Tsizes m.sizes := glue_join _ _
theorem plL_join (p : Pl) : plL p = joinL (joinL Tplace [p.g, p.u, p.c] ++ (if p.f then 32 :: Tflip else [])) [p.q, p.x, p.y] := by
  unfold plL
  rw [← List.cons_append, glue_app _ _ (by simp) (by cases p.f <;> simp), glue_join]
  cases p.f with
  | false =>
    simp [glue, joinL]
  | true =>
    simp [glue, joinL]

theorem glue_lines : ∀ (ls : List B), glue 10 (ls ++ [[]]) = ls.flatMap (fun l => l ++ [10])
  | [] => rfl
  | l :: r => by
    rw [List.cons_append, glue_cons _ _ (by simp), glue_lines r, List.flatMap_cons]; simp

/-- the text up to the first k places -/
def textUp (m : Mk) (k : Nat) : B := headL m ++ [10] ++ (sizesL m ++ [10]) ++ (m.places.take k).flatMap (fun p => plL p ++ [10])
theorem textUp_all (m : Mk) (k : Nat) (h : m.places.length ≤ k) : textUp m k = textOf m := by
  unfold textUp textOf linesOf
  rw [glue_lines, List.take_of_length_le h, List.flatMap_cons, List.flatMap_cons, List.flatMap_map]
  simp
theorem textUp_zero (m : Mk) : textUp m 0 = headL m ++ [10] ++ (sizesL m ++ [10]) := by simp [textUp]
theorem textUp_snoc (m : Mk) (k : Nat) (h : k < m.places.length) : textUp m (k + 1) = textUp m k ++ (plL m.places[k] ++ [10]) := by
  unfold textUp
  rw [take_snoc _ _ h, List.flatMap_append]
  simp

theorem plL_len (p : Pl) (h : plOk p = true) : (plL p).length ≤ 100 := by
  obtain ⟨a, b, c, d, e, f⟩ := plOk_iff.1 h
  rw [plL_join]
  have h1 := joinL_len Tplace [p.g, p.u, p.c] (by
    intro n hn
    simp only [List.mem_cons, List.not_mem_nil, or_false] at hn
    rcases hn with rfl | rfl | rfl <;> omega)
  have h2 := joinL_len (joinL Tplace [p.g, p.u, p.c] ++ (if p.f then 32 :: Tflip else [])) [p.q, p.x, p.y] (by
    intro n hn
    simp only [List.mem_cons, List.not_mem_nil, or_false] at hn
    rcases hn with rfl | rfl | rfl <;> omega)
  have h3 : Tplace.length = 5 := rfl
  rw [List.length_append] at h2
  have h4 : (if p.f then 32 :: Tflip else ([] : B)).length ≤ 5 := by cases p.f <;> simp [Tflip]
  simp only [List.length_cons, List.length_nil] at h1 h2
  omega
theorem headL_len (m : Mk) (h : headOk m.len m.wid m.rx m.ry = true) : (headL m).length ≤ 42 := by
  obtain ⟨a, b, c, d⟩ := headOk_iff.1 h
  rw [headL_join]
  have h1 := joinL_len Tmarker [m.len, m.wid, m.rx, m.ry] (by
    intro n hn
    simp only [List.mem_cons, List.not_mem_nil, or_false] at hn
    rcases hn with rfl | rfl | rfl | rfl <;> omega)
  have h3 : Tmarker.length = 6 := rfl
  simp only [List.length_cons, List.length_nil] at h1
  omega
theorem sizesL_len (m : Mk) (h : m.sizes.all (inR 0 1048576) = true) (hl : m.sizes.length ≤ 6) : (sizesL m).length ≤ 60 := by
  rw [sizesL_join]
  have h1 := joinL_len Tsizes m.sizes (by
    intro n hn
    have := inR_iff.1 (List.all_eq_true.1 h n hn)
    omega)
  have h3 : Tsizes.length = 5 := rfl
  omega
theorem textUp_len (m : Mk) (h1 : headOk m.len m.wid m.rx m.ry = true) (h2 : m.sizes.all (inR 0 1048576) = true) (hl : m.sizes.length ≤ 6) : ∀ k, k ≤ m.places.length → (m.places.take k).all plOk = true → (textUp m k).length ≤ 200 + k * 101
  | 0, _, _ => by
    have a := headL_len m h1
    have b := sizesL_len m h2 hl
    rw [textUp_zero]
    simp only [List.length_append, List.length_cons, List.length_nil]
    omega
  | k + 1, hk, ho => by
    rw [take_snoc _ _ (by omega), List.all_append, Bool.and_eq_true] at ho
    have ih := textUp_len m h1 h2 hl k (by omega) ho.1
    have hp := plL_len m.places[k] (by simpa using ho.2)
    rw [textUp_snoc m k (by omega)]
    simp only [List.length_append, List.length_cons, List.length_nil]
    omega

theorem all_pl_hit {l : List Pl} {k : Nat} (h : k < l.length) (h1 : plOk l[k] = false) : l.all plOk = false := by
  cases e : l.all plOk with
  | false => rfl
  | true => rw [List.all_eq_true.1 e _ (List.getElem_mem h)] at h1; cases h1
theorem all_pl_snoc {l : List Pl} {k : Nat} (h : k < l.length) (h0 : (l.take k).all plOk = true) (h1 : plOk l[k] = true) : (l.take (k + 1)).all plOk = true := by
  rw [take_snoc l k h, List.all_append, h0]
  simp [h1]

theorem print_long {m : Mk} (h : 6 < m.sizes.length ∨ 60 < m.places.length) : print m = ([], 5) := by
  unfold print long
  rw [if_pos]
  rcases h with h | h <;> simp [h]
theorem print_bad {m : Mk} (h1 : m.sizes.length ≤ 6) (h2 : m.places.length ≤ 60) (h : mkOk m = false) : print m = ([], 3) := by
  unfold print
  rw [if_neg (by unfold long; simp; omega), if_neg (by rw [h]; exact Bool.false_ne_true)]
theorem print_ok {m : Mk} (h1 : m.sizes.length ≤ 6) (h2 : m.places.length ≤ 60) (h : mkOk m = true) : print m = (textOf m, 0) := by
  unfold print
  rw [if_neg (by unfold long; simp; omega), if_pos h]

end Go.Proofs.YtmbjlbmfagfneaaDoor
