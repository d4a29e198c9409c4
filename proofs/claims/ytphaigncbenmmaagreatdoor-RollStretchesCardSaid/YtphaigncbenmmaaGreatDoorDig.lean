/- Numbers as words, in plain Lean: what number finds step by step. -/
import Derived.Test.YtphaigncbenmmaaGreatDoorMod
import Derived.Lib.AtoiTie
import Derived.Lib.Strings
namespace Go.Proofs.YtphaigncbenmmaaGreatDoor
open Go Go.Lib

def isDig (b : UInt8) : Bool := decide (48 ≤ b.toNat ∧ b.toNat ≤ 57)

theorem dec_all : ∀ (l : B) (acc : Nat), l.all isDig = true → ∃ m, decFrom acc l = some m
  | [], acc, _ => ⟨acc, rfl⟩
  | b :: l, acc, h => by
    rw [List.all_cons, Bool.and_eq_true] at h
    have hd : digitVal b = some (b.toNat - 48) := by unfold digitVal; rw [if_pos (of_decide_eq_true h.1)]
    rw [decFrom, hd]
    exact dec_all l _ h.2

theorem dec_not : ∀ (l : B) (acc : Nat), l.all isDig = false → decFrom acc l = none
  | [], _, h => by simp at h
  | b :: l, acc, h => by
    rw [decFrom]
    cases hd : digitVal b with
    | none => rfl
    | some v =>
      obtain ⟨h1, h2, _⟩ := digitVal_eq hd
      rw [List.all_cons, show isDig b = true from decide_eq_true ⟨h1, h2⟩, Bool.true_and] at h
      exact dec_not l _ h

/-- the sign and the digits of a word -/
def neg (w : B) : Bool := w.head? == some 45
def digs (w : B) : B := if neg w then w.tail else w

theorem num_parts (w : B) : num w = if digs w = [] ∨ ((digs w).head? = some 48 ∧ (1 < (digs w).length ∨ neg w = true)) then none else (decFrom 0 (digs w)).map fun (m : Nat) => if neg w then -(m : Int) else (m : Int) := by
  cases w with
  | nil => rfl
  | cons c r =>
    rw [num]
    by_cases hc : c = 45
    · subst hc
      have h1 : neg (45 :: r) = true := rfl
      have h2 : digs (45 :: r) = r := rfl
      rw [if_pos rfl, h1, h2]
      by_cases hr : r = []
      · subst hr; rfl
      · by_cases hz : r.head? = some 48
        · rw [if_pos hz, if_pos (.inr ⟨hz, .inr rfl⟩)]
        · rw [if_neg hz, if_neg (by simp [hr, hz])]
          unfold decNat
          rw [if_neg (by simpa using hr)]
          rfl
    · have h1 : neg (c :: r) = false := by simp [neg, hc]
      have h2 : digs (c :: r) = c :: r := by unfold digs; rw [h1]; rfl
      rw [if_neg hc, h1, h2]
      by_cases hz : c = 48 ∧ r ≠ []
      · rw [if_pos hz, if_pos (.inr ⟨by rw [hz.1]; rfl, .inl (by
          cases r with
          | nil => exact absurd rfl hz.2
          | cons a r => simp)⟩)]
      · rw [if_neg hz, if_neg ?_]
        · unfold decNat
          rfl
        · rintro (h | ⟨h, h' | h'⟩)
          · exact absurd h (by simp)
          · refine hz ⟨by simpa using h, ?_⟩
            rintro rfl
            simp at h'
          · exact absurd h' (by simp)

theorem neg_itoa {w : B} {n : Int} (h : num w = some n) : (neg w = true ∧ n < 0 ∧ digs w = decDigits n.natAbs) ∨ (neg w = false ∧ 0 ≤ n ∧ digs w = decDigits n.toNat) := by
  have hi := itoa_num h
  unfold itoa at hi
  split at hi
  · subst hi
    exact .inl ⟨rfl, by omega, rfl⟩
  · subst hi
    obtain ⟨c, r, e, h1, _⟩ := digits_first n.toNat
    have hn : neg (decDigits n.toNat) = false := by rw [e]; simp [neg, h1]
    exact .inr ⟨hn, by omega, by unfold digs; rw [hn]; rfl⟩

theorem num_atoi {w : B} {n : Int} (h : num w = some n) (hl : (digs w).length ≤ 18) : atoiAll w = .ok n := by
  have hi := itoa_num h
  rcases neg_itoa h with ⟨h1, h2, h3⟩ | ⟨h1, h2, h3⟩
  · have hw : w = 45 :: decDigits n.natAbs := by
      rw [← hi]; unfold itoa; rw [if_pos h2]
    rw [h3] at hl
    rw [hw, atoiAll_minus, signed_short hl, decNat_digits]
    show NumEnd.ok (-((n.natAbs : Nat) : Int)) = _
    congr 1; omega
  · have hw : w = decDigits n.toNat := by
      rw [← hi]; unfold itoa; rw [if_neg (by omega)]
    rw [h3] at hl
    obtain ⟨c, r, e, h4, _⟩ := digits_first n.toNat
    have hc : 48 ≤ c.toNat ∧ c.toNat ≤ 57 := digit_mem n.toNat c (by rw [e]; simp)
    rw [hw, atoiAll_short _ hl]
    have hd := decNat_digits n.toNat
    rw [e] at hd ⊢
    have h43 : c ≠ 43 := by rintro rfl; revert hc; decide
    have : atoi (c :: r) = (decNat (c :: r)).map fun (m : Nat) => (m : Int) := by simp [atoi, h4, h43]
    rw [this, hd]
    show NumEnd.ok ((n.toNat : Nat) : Int) = _
    congr 1; omega

theorem digs_unsign (w : B) : unsign w = digs w := by
  cases w with
  | nil => rfl
  | cons c r =>
    unfold unsign digs neg
    by_cases h : c = 45
    · subst h; rfl
    · have : ((c :: r).head? == some 45) = false := by
        rw [beq_eq_false_iff_ne]; exact fun e => h (Option.some.inj e)
      rw [this]; simp [h]

theorem digits_lower : ∀ (k u : Nat), 10 ^ k ≤ u → k + 1 ≤ (decDigits u).length
  | 0, u, _ => by
    have := decDigits_ne u
    rcases h : decDigits u with _ | ⟨a, r⟩
    · exact absurd h this
    · simp
  | k + 1, u, h => by
    have h10 : 0 < 10 ^ k := Nat.pow_pos (by omega)
    rw [Nat.pow_succ] at h
    rw [decDigits_big (by omega), List.length_append]
    have := digits_lower k (u / 10) (by omega)
    simp; omega
theorem digits_upper {k u : Nat} (h : (decDigits u).length ≤ k) : u < 10 ^ k := by
  rcases Nat.lt_or_ge u (10 ^ k) with h1 | h1
  · exact h1
  · have := digits_lower k u h1; omega
theorem num18_small {w : B} {n : Int} (h : num18 w = some n) : -1000000000000000000 < n ∧ n < 1000000000000000000 := by
  have hn := num18_num h
  have hl : (digs w).length ≤ 18 := by
    unfold num18 at h
    split at h
    · rename_i h1; rw [digs_unsign] at h1; exact h1
    · cases h
  rcases neg_itoa hn with ⟨h1, h2, h3⟩ | ⟨h1, h2, h3⟩
  · rw [h3] at hl
    have := digits_upper hl
    omega
  · rw [h3] at hl
    have := digits_upper hl
    omega

theorem num_bad {w : B} (h : digs w = [] ∨ ((digs w).head? = some 48 ∧ (1 < (digs w).length ∨ neg w = true))) : num w = none := by rw [num_parts, if_pos h]
theorem num_nodig {w : B} (h : (digs w).all isDig = false) : num w = none := by
  rw [num_parts]
  split
  · rfl
  · rw [dec_not _ _ h]; rfl
theorem num_dig {w : B} (h : ¬ (digs w = [] ∨ ((digs w).head? = some 48 ∧ (1 < (digs w).length ∨ neg w = true)))) (hd : (digs w).all isDig = true) : ∃ n, num w = some n := by
  obtain ⟨m, hm⟩ := dec_all (digs w) 0 hd
  rw [num_parts, if_neg h, hm]
  exact ⟨_, rfl⟩

theorem no18_num {w : B} (h : num w = none) : num18 w = none := by unfold num18; rw [h]; split <;> rfl
theorem no18_long {w : B} (h : 18 < (digs w).length) : num18 w = none := by unfold num18; rw [digs_unsign, if_neg (by omega)]
theorem yes18 {w : B} {n : Int} (h : num w = some n) (hl : (digs w).length ≤ 18) : num18 w = some n := by unfold num18; rw [digs_unsign, if_pos hl, h]
/-- the word -0 -/
theorem minus_zero {w : B} : w = [45, 48] ↔ (neg w = true ∧ digs w = [48]) := by
  constructor
  · rintro rfl; exact ⟨rfl, rfl⟩
  · rintro ⟨h1, h2⟩
    cases w with
    | nil => cases h1
    | cons c r =>
      have hc : c = 45 := by
        have := eq_of_beq h1
        exact Option.some.inj this
      subst hc
      have : digs (45 :: r) = r := rfl
      rw [this] at h2
      rw [h2]

theorem nums18_fail {a b : List B} {w : B} (hn : num18 w = none) : nums18 (a ++ w :: b) = none := by
  rw [nums18_app, nums18_no1 b hn]
  cases nums18 a <;> rfl
theorem nums18_snoc {a : List B} {l : List Int} {w : B} {n : Int} (h : nums18 a = some l) (hn : num18 w = some n) : nums18 (a ++ [w]) = some (l ++ [n]) := by
  rw [nums18_app, h, nums18_cons hn (show nums18 [] = some [] from rfl)]; rfl
theorem nums18_small : ∀ {ws : List B} {l : List Int}, nums18 ws = some l → ∀ n ∈ l, -1000000000000000000 < n ∧ n < 1000000000000000000
  | [], l, h, n, hn => by have := Option.some.inj h; subst this; cases hn
  | w :: r, l, h, n, hn => by
    cases h1 : num18 w with
    | none => rw [nums18_no1 r h1] at h; cases h
    | some m =>
      cases h2 : nums18 r with
      | none => rw [nums18_no2 w h2] at h; cases h
      | some l' =>
        rw [nums18_cons h1 h2] at h
        have := Option.some.inj h
        subst this
        rcases List.mem_cons.1 hn with rfl | hn
        · exact num18_small h1
        · exact nums18_small h2 n hn

end Go.Proofs.YtphaigncbenmmaaGreatDoor
