/- The reference's loops in plain words: pieces of a text, a number's digits, behind and next. -/
import Derived.Test.YtphaigncbenmmaaGreatDoorNms
import Derived.Test.YtphaigncbenmmaaGreatDoorStp
namespace Go.Proofs.YtphaigncbenmmaaGreatDoor
open Go Go.RowKit Go.Lib

/-! ### Split -/
/-- what Split's loop keeps: ls are the pieces ahead of byte number m, and none of the bytes from m up to k is the one sought -/
structure SplUp (d : UInt8) (s : ByteArray) (k m : Nat) (ls : List ByteArray) : Prop where
  le : m ≤ k
  eq : cuts d (bs s) = ls.map bs ++ cuts d ((bs s).drop m)
  free : d ∉ ((bs s).drop m).take (k - m)
  len : ls.length ≤ m
theorem bs_extract (s : ByteArray) (m k : Nat) : bs (s.extract m k) = ((bs s).drop m).take (k - m) := by
  unfold bs
  rw [ByteArray.data_extract, Array.toList_extract, List.extract_eq_take_drop]
theorem SplUp.start (d : UInt8) (s : ByteArray) : SplUp d s 0 0 [] := ⟨Nat.le_refl _, by simp, by simp, by simp⟩
theorem SplUp.miss {d : UInt8} {s : ByteArray} {k m : Nat} {ls : List ByteArray} (h : SplUp d s k m ls) (hk : k < (bs s).length) (hc : (bs s)[k] ≠ d) : SplUp d s (k + 1) m ls := by
  have hle := h.le
  refine ⟨by omega, h.eq, ?_, h.len⟩
  have hl : k - m < ((bs s).drop m).length := by rw [List.length_drop]; omega
  rw [show k + 1 - m = (k - m) + 1 by omega, take_snoc _ _ hl]
  intro hm
  rcases List.mem_append.1 hm with hm | hm
  · exact h.free hm
  · rw [List.mem_singleton, List.getElem_drop] at hm
    apply hc
    rw [hm]
    congr 1; omega
theorem SplUp.hit {d : UInt8} {s : ByteArray} {k m : Nat} {ls : List ByteArray} (h : SplUp d s k m ls) (hk : k < (bs s).length) (hc : (bs s)[k] = d) : SplUp d s (k + 1) (k + 1) (ls ++ [s.extract m k]) := by
  have hle := h.le
  refine ⟨Nat.le_refl _, ?_, by simp, by rw [List.length_append]; have := h.len; simp; omega⟩
  have e : (bs s).drop m = ((bs s).drop m).take (k - m) ++ d :: (bs s).drop (k + 1) := by
    conv => lhs; rw [← List.take_append_drop (k - m) ((bs s).drop m)]
    rw [List.drop_drop, show m + (k - m) = k by omega, List.drop_eq_getElem_cons hk, hc]
  rw [h.eq, e, cuts_app h.free, List.map_append, ← bs_extract]
  simp
theorem SplUp.done {d : UInt8} {s : ByteArray} {k m : Nat} {ls : List ByteArray} (h : SplUp d s k m ls) (hk : k = s.size) : (ls ++ [s.extract m s.size]).map bs = cuts d (bs s) := by
  subst hk
  have hf := h.free
  rw [← bs_len, show (bs s).length - m = ((bs s).drop m).length by rw [List.length_drop], List.take_length] at hf
  rw [h.eq, cuts_one hf, List.map_append]
  congr 1
  rw [List.map_singleton, bs_extract, ← bs_len, show (bs s).length - m = ((bs s).drop m).length by rw [List.length_drop], List.take_length]

/-! ### Number -/
/-- the first k digits spell n -/
structure NbUp (D : ByteArray) (k n : Nat) : Prop where
  eq : decFrom 0 ((bs D).take k) = some n
  lt : n < 10 ^ k
theorem NbUp.start (D : ByteArray) : NbUp D 0 0 := ⟨rfl, by simp⟩
theorem NbUp.next {D : ByteArray} {k n : Nat} (h : NbUp D k n) (hk : k < (bs D).length) (h1 : 48 ≤ (bs D)[k].toNat) (h2 : (bs D)[k].toNat ≤ 57) : NbUp D (k + 1) (10 * n + ((bs D)[k].toNat - 48)) := by
  refine ⟨?_, ?_⟩
  · rw [take_snoc _ _ hk, decFrom_app, h.eq]
    show decFrom n [(bs D)[k]] = _
    have hd : digitVal (bs D)[k] = some ((bs D)[k].toNat - 48) := by unfold digitVal; rw [if_pos ⟨h1, h2⟩]
    rw [decFrom, hd]
    show some _ = _
    rw [Nat.mul_comm]
  · have := h.lt
    rw [Nat.pow_succ]; omega
theorem NbUp.small {D : ByteArray} {k n : Nat} (h : NbUp D k n) (hk : k ≤ 18) : n < 1000000000000000000 :=
  Nat.lt_of_lt_of_le h.lt (Nat.le_trans (Nat.pow_le_pow_right (by omega) hk) (by decide))
theorem NbUp.done {D s : ByteArray} {k n : Nat} (h : NbUp D k n) (hk : ¬ k < D.size) (hD : bs D = digs (bs s)) (hl : D.size ≤ 18) (hg : ¬ (digs (bs s) = [] ∨ ((digs (bs s)).head? = some 48 ∧ (1 < (digs (bs s)).length ∨ neg (bs s) = true)))) :
    num18 (bs s) = some (if neg (bs s) then -(n : Int) else (n : Int)) := by
  have e := h.eq
  rw [List.take_of_length_le (by rw [bs_len]; omega), hD] at e
  refine yes18 ?_ (by rw [← hD, bs_len]; exact hl)
  rw [num_parts, if_neg hg, e]; rfl

/-- a word's sign and digits, as Number takes them -/
theorem digs_cons45 (s : ByteArray) (h : (bs s).head? = some 45) : neg (bs s) = true ∧ digs (bs s) = (bs s).drop 1 := by
  have hn : neg (bs s) = true := by unfold neg; rw [h]; rfl
  refine ⟨hn, ?_⟩
  unfold digs; rw [if_pos hn, List.drop_one]
theorem digs_other (s : ByteArray) (h : (bs s).head? ≠ some 45) : neg (bs s) = false ∧ digs (bs s) = bs s := by
  have hn : neg (bs s) = false := by
    unfold neg
    rw [beq_eq_false_iff_ne]; exact h
  refine ⟨hn, ?_⟩
  unfold digs; rw [hn]; simp

/-! ### A line, word by word, from word number k on -/
theorem drop5 {α : Type} (l : List α) (k : Nat) : (l.drop k).drop 5 = l.drop (k + 5) := by rw [List.drop_drop]

/-! ### behind and next -/
/-- the flaws up to number j have been hopped over in round number k -/
def hopsUp (fs : List Fl) (a : Int) (k j : Nat) : Int := (fs.take j).foldl hop (rounds fs k a)
theorem hopsUp_zero (fs : List Fl) (a : Int) (k : Nat) : hopsUp fs a k 0 = rounds fs k a := rfl
theorem hopsUp_next (fs : List Fl) (a : Int) (k j : Nat) (h : j < fs.length) : hopsUp fs a k (j + 1) = hop (hopsUp fs a k j) fs[j] := by
  unfold hopsUp; rw [take_snoc fs j h, List.foldl_append]; rfl
theorem hopsUp_all (fs : List Fl) (a : Int) (k j : Nat) (h : ¬ j < fs.length) : hopsUp fs a k j = rounds fs (k + 1) a := by
  unfold hopsUp; rw [List.take_of_length_le (by omega)]; rfl
theorem hopsUp_top {n : Int} {fs : List Fl} (hs : Fits n fs) {a : Int} (h : a ≤ n) (k j : Nat) : hopsUp fs a k j ≤ n :=
  foldl_top _ _ (fun f hf => (hs f (List.mem_of_mem_take hf)).2.2) (rounds_top fs a (fun f hf => (hs f hf).2.2) h k)
theorem hopsUp_ge (fs : List Fl) (a : Int) (k j : Nat) : a ≤ hopsUp fs a k j := Int.le_trans (rounds_le fs k a) (foldl_le _ _)
def nextUp (n : Int) (fs : List Fl) (a : Int) (j : Nat) : Int := (fs.take j).foldl (nextF a) n
theorem nextUp_next (n : Int) (fs : List Fl) (a : Int) (j : Nat) (h : j < fs.length) : nextUp n fs a (j + 1) = nextF a (nextUp n fs a j) fs[j] := by
  unfold nextUp; rw [take_snoc fs j h, List.foldl_append]; rfl
theorem nextUp_all (n : Int) (fs : List Fl) (a : Int) (j : Nat) (h : ¬ j < fs.length) : nextUp n fs a j = next n fs a := by
  unfold nextUp; rw [List.take_of_length_le (by omega)]; rfl

end Go.Proofs.YtphaigncbenmmaaGreatDoor
