/- Numbers as words, in plain Lean: what number finds step by step. -/
import Derived.Test.YtmbjlbmfagfneaaDoorLaw
import Derived.Lib.AtoiTie
import Derived.Lib.Strings
namespace Go.Proofs.YtmbjlbmfagfneaaDoor
open Go Go.Lib

def isDig (b : UInt8) : Bool := decide (48 ≤ b.toNat ∧ b.toNat ≤ 57)

theorem dec_all : ∀ (l : B) (acc : Nat), l.all isDig = true → ∃ m, decFrom acc l = some m
  | [], acc, _ => ⟨acc, rfl⟩
  | b :: l, acc, h => by
    rw [List.all_cons, Bool.and_eq_true] at h
    have hd : digitVal b = some (b.toNat - 48) := by unfold digitVal; rw [if_pos (of_decide_eq_true h.1)]
    rw [decFrom, hd]
    exact dec_all l _ h.2

theorem dec_not : ∀ (l : B) (acc : Nat), l.all isDig = false → decFrom acc l = none
  | [], _, h => by simp at h
  | b :: l, acc, h => by
    rw [decFrom]
    cases hd : digitVal b with
    | none => rfl
    | some v =>
      obtain ⟨h1, h2, _⟩ := digitVal_eq hd
      rw [List.all_cons, show isDig b = true from decide_eq_true ⟨h1, h2⟩, Bool.true_and] at h
      exact dec_not l _ h

/-- the sign and the digits of a word -/
def neg (w : B) : Bool := w.head? == some 45
def digs (w : B) : B := if neg w then w.tail else w

theorem num_parts (w : B) : num w = if digs w = [] ∨ ((digs w).head? = some 48 ∧ (1 < (digs w).length ∨ neg w = true)) then none else (decFrom 0 (digs w)).map fun (m : Nat) => if neg w then -(m : Int) else (m : Int) := by
  cases w with
  | nil => rfl
  | cons c r =>
    rw [num]
    by_cases hc : c = 45
    · subst hc
      have h1 : neg (45 :: r) = true := rfl
      have h2 : digs (45 :: r) = r := rfl
      rw [if_pos rfl, h1, h2]
      by_cases hr : r = []
      · subst hr; rfl
      · by_cases hz : r.head? = some 48
        · rw [if_pos hz, if_pos (.inr ⟨hz, .inr rfl⟩)]
        · rw [if_neg hz, if_neg (by simp [hr, hz])]
          unfold decNat
          rw [if_neg (by simpa using hr)]
          rfl
    · have h1 : neg (c :: r) = false := by simp [neg, hc]
      have h2 : digs (c :: r) = c :: r := by unfold digs; rw [h1]; rfl
      rw [if_neg hc, h1, h2]
      by_cases hz : c = 48 ∧ r ≠ []
      · rw [if_pos hz, if_pos (.inr ⟨by rw [hz.1]; rfl, .inl (by
          cases r with
          | nil => exact absurd rfl hz.2
          | cons a r => simp)⟩)]
      · rw [if_neg hz, if_neg ?_]
        · unfold decNat
          rfl
        · rintro (h | ⟨h, h' | h'⟩)
          · exact absurd h (by simp)
          · refine hz ⟨by simpa using h, ?_⟩
            rintro rfl
            simp at h'
          · exact absurd h' (by simp)

theorem pre_neg (w : B) : hasPrefix w [45] = neg w := by
  cases w with
  | nil => rfl
  | cons c r =>
    unfold hasPrefix neg
    by_cases h : c = 45
    · subst h; rfl
    · have h1 : ((45 : UInt8) == c) = false := by
        rw [beq_eq_false_iff_ne]; exact Ne.symm h
      have h2 : ((c :: r).head? == some 45) = false := by
        rw [beq_eq_false_iff_ne]; exact fun e => h (Option.some.inj e)
      rw [h2, List.isPrefixOf, h1]; rfl
theorem pre_digs (w : B) : trimPrefix w [45] = digs w := by
  unfold trimPrefix digs
  rw [pre_neg]
  split
  · cases w <;> rfl
  · rfl

theorem neg_itoa {w : B} {n : Int} (h : num w = some n) : (neg w = true ∧ n < 0 ∧ digs w = decDigits n.natAbs) ∨ (neg w = false ∧ 0 ≤ n ∧ digs w = decDigits n.toNat) := by
  have hi := itoa_num h
  unfold itoa at hi
  split at hi
  · subst hi
    exact .inl ⟨rfl, by omega, rfl⟩
  · subst hi
    obtain ⟨c, r, e, h1, _⟩ := digits_first n.toNat
    have hn : neg (decDigits n.toNat) = false := by rw [e]; simp [neg, h1]
    exact .inr ⟨hn, by omega, by unfold digs; rw [hn]; rfl⟩

theorem num_big {w : B} {n : Int} (h : num w = some n) (hl : 18 < (digs w).length) : (neg w = true → n < -1048576) ∧ (neg w = false → 1048576 < n) := by
  rcases neg_itoa h with ⟨h1, h2, h3⟩ | ⟨h1, h2, h3⟩
  · refine ⟨fun _ => ?_, fun h' => by rw [h1] at h'; cases h'⟩
    rw [h3, decDigits_length] at hl
    rcases Int.lt_or_le n (-1048576) with h' | h'
    · exact h'
    · have := nDigits_le 6 n.natAbs (by omega)
      omega
  · refine ⟨fun h' => by rw [h1] at h'; (cases h'), fun _ => ?_⟩
    rw [h3, decDigits_length] at hl
    rcases Int.lt_or_le 1048576 n with h' | h'
    · exact h'
    · have := nDigits_le 6 n.toNat (by omega)
      omega

theorem num_atoi {w : B} {n : Int} (h : num w = some n) (hl : (digs w).length ≤ 18) : atoiAll w = .ok n := by
  have hi := itoa_num h
  rcases neg_itoa h with ⟨h1, h2, h3⟩ | ⟨h1, h2, h3⟩
  · have hw : w = 45 :: decDigits n.natAbs := by
      rw [← hi]; unfold itoa; rw [if_pos h2]
    rw [h3] at hl
    rw [hw, atoiAll_minus, signed_short hl, decNat_digits]
    show NumEnd.ok (-((n.natAbs : Nat) : Int)) = _
    congr 1; omega
  · have hw : w = decDigits n.toNat := by
      rw [← hi]; unfold itoa; rw [if_neg (by omega)]
    rw [h3] at hl
    obtain ⟨c, r, e, h4, _⟩ := digits_first n.toNat
    have hc : 48 ≤ c.toNat ∧ c.toNat ≤ 57 := digit_mem n.toNat c (by rw [e]; simp)
    rw [hw, atoiAll_short _ hl]
    have hd := decNat_digits n.toNat
    rw [e] at hd ⊢
    have h43 : c ≠ 43 := by rintro rfl; revert hc; decide
    have : atoi (c :: r) = (decNat (c :: r)).map fun (m : Nat) => (m : Int) := by simp [atoi, h4, h43]
    rw [this, hd]
    show NumEnd.ok ((n.toNat : Nat) : Int) = _
    congr 1; omega

end Go.Proofs.YtmbjlbmfagfneaaDoor
