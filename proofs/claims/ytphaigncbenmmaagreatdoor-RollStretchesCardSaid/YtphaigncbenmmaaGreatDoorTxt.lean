/- Texts in plain Lean: the pieces of a text between a byte, and back; numbers as words, and back. -/
import Derived.Lib.SplitLaws
import Derived.Lib.ItoaNum
import Derived.Lib.AtoiTie
namespace Go.Proofs.YtphaigncbenmmaaGreatDoor
open Go Go.Lib

abbrev B := List UInt8

def cuts (d : UInt8) : B → List B
  | [] => [[]]
  | c :: t => if c = d then [] :: cuts d t else (c :: (cuts d t).headD []) :: (cuts d t).tail

def glue (d : UInt8) : List B → B
  | [] => []
  | [w] => w
  | w :: v :: r => w ++ d :: glue d (v :: r)

theorem cuts_nil (d : UInt8) : cuts d [] = [[]] := rfl
theorem cuts_eq (d : UInt8) (t : B) : cuts d (d :: t) = [] :: cuts d t := by simp [cuts]
theorem cuts_ne {d c : UInt8} (h : c ≠ d) (t : B) : cuts d (c :: t) = (c :: (cuts d t).headD []) :: (cuts d t).tail := by simp [cuts, h]

theorem cuts_cons (d : UInt8) (s : B) : ∃ a r, cuts d s = a :: r := by
  cases s with
  | nil => exact ⟨_, _, rfl⟩
  | cons c t =>
    by_cases h : c = d
    · subst h; exact ⟨_, _, cuts_eq _ _⟩
    · exact ⟨_, _, cuts_ne h _⟩

theorem cuts_ne_nil (d : UInt8) (s : B) : cuts d s ≠ [] := by
  obtain ⟨a, r, e⟩ := cuts_cons d s
  rw [e]; simp

theorem glue_cons (d : UInt8) (w : B) {r : List B} (h : r ≠ []) : glue d (w :: r) = w ++ d :: glue d r := by
  cases r with
  | nil => exact absurd rfl h
  | cons v r => rfl

theorem glue_cuts (d : UInt8) : ∀ s : B, glue d (cuts d s) = s
  | [] => rfl
  | c :: t => by
    have ih := glue_cuts d t
    by_cases h : c = d
    · subst h; rw [cuts_eq, glue_cons _ _ (cuts_ne_nil _ _), ih]; rfl
    · obtain ⟨a, r, e⟩ := cuts_cons d t
      rw [cuts_ne h, e]
      rw [e] at ih
      cases r with
      | nil => simp only [glue] at ih; simp [glue, ih]
      | cons v r => simp only [glue] at ih; simp [glue, ih]

theorem cuts_app {d : UInt8} : ∀ {w : B}, d ∉ w → ∀ t : B, cuts d (w ++ d :: t) = w :: cuts d t
  | [], _, t => cuts_eq d t
  | c :: w, h, t => by
    have h1 : c ≠ d := fun e => h (by simp [e])
    have h2 : d ∉ w := fun e => h (List.mem_cons_of_mem _ e)
    rw [List.cons_append, cuts_ne h1, cuts_app h2 t]; rfl

theorem cuts_one {d : UInt8} : ∀ {w : B}, d ∉ w → cuts d w = [w]
  | [], _ => rfl
  | c :: w, h => by
    have h1 : c ≠ d := fun e => h (by simp [e])
    have h2 : d ∉ w := fun e => h (List.mem_cons_of_mem _ e)
    rw [cuts_ne h1, cuts_one h2]; rfl

theorem cuts_glue {d : UInt8} : ∀ {ws : List B}, ws ≠ [] → (∀ w ∈ ws, d ∉ w) → cuts d (glue d ws) = ws
  | [], h, _ => absurd rfl h
  | [w], _, h => cuts_one (h w (by simp))
  | w :: v :: r, _, h => by
    rw [glue, cuts_app (h w (by simp)), cuts_glue (by simp) (fun x hx => h x (List.mem_cons_of_mem _ hx))]

theorem cuts_free {d : UInt8} : ∀ {s : B}, ∀ w ∈ cuts d s, d ∉ w
  | [], w, h => by rw [cuts_nil, List.mem_singleton] at h; subst h; simp
  | c :: t, w, h => by
    by_cases hc : c = d
    · subst hc
      rw [cuts_eq, List.mem_cons] at h
      rcases h with rfl | h
      · simp
      · exact cuts_free w h
    · rw [cuts_ne hc, List.mem_cons] at h
      obtain ⟨a, r, e⟩ := cuts_cons d t
      rw [e] at h
      rcases h with rfl | h
      · have := cuts_free (s := t) a (by rw [e]; simp)
        intro hm
        rcases List.mem_cons.1 hm with h1 | h1
        · exact hc h1.symm
        · exact this h1
      · exact cuts_free (s := t) w (by rw [e]; exact List.mem_cons_of_mem _ h)

theorem cuts_length (d : UInt8) : ∀ s : B, (cuts d s).length = s.count d + 1
  | [] => rfl
  | c :: t => by
    have ih := cuts_length d t
    by_cases h : c = d
    · subst h; rw [cuts_eq, List.length_cons, ih, List.count_cons_self]
    · obtain ⟨a, r, e⟩ := cuts_cons d t
      rw [cuts_ne h, List.count_cons_of_ne h, ← ih, e]; rfl

/-- the pieces of a text that stands ahead of another -/
theorem cuts_front (d : UInt8) (u : B) : ∀ t : B, ∃ ls p, cuts d t = ls ++ [p] ∧ cuts d (t ++ u) = ls ++ ((p ++ (cuts d u).headD []) :: (cuts d u).tail)
  | [] => by
    obtain ⟨a, r, e⟩ := cuts_cons d u
    exact ⟨[], [], rfl, by simp [e]⟩
  | c :: t => by
    obtain ⟨ls, p, e1, e2⟩ := cuts_front d u t
    by_cases h : c = d
    · subst h
      exact ⟨[] :: ls, p, by rw [cuts_eq, e1]; rfl, by rw [List.cons_append, cuts_eq, e2]; rfl⟩
    · cases ls with
      | nil =>
        refine ⟨[], c :: p, ?_, ?_⟩
        · rw [cuts_ne h, e1]; rfl
        · rw [List.cons_append, cuts_ne h, e2]; rfl
      | cons a ls =>
        refine ⟨(c :: a) :: ls, p, ?_, ?_⟩
        · rw [cuts_ne h, e1]; rfl
        · rw [List.cons_append, cuts_ne h, e2]; rfl

/-- the last piece is empty where the text is empty or ends with the byte -/
theorem cuts_last (d : UInt8) : ∀ (t : B) (ls : List B) (p : B), cuts d t = ls ++ [p] → (p = [] ↔ t.getLast?.getD d = d)
  | [], ls, p, e => by
    rw [cuts_nil] at e
    have : ls = [] ∧ p = [] := by
      cases ls with
      | nil => simpa using e.symm
      | cons a ls => simp at e
    simp [this.2]
  | c :: t, ls, p, e => by
    obtain ⟨a, r, ec⟩ := cuts_cons d t
    have hl : t.getLast?.getD d = d → (c :: t).getLast?.getD d = d ∨ t = [] := by
      intro h
      cases t with
      | nil => exact .inr rfl
      | cons b t => left; simpa [List.getLast?_cons] using h
    by_cases h : c = d
    · subst h
      rw [cuts_eq, ec] at e
      cases ls with
      | nil => simp at e
      | cons x ls =>
        rw [List.cons_append] at e
        have ih := cuts_last c t ls p (by rw [ec]; exact (List.cons.inj e).2)
        rw [ih, List.getLast?_cons]
        cases t.getLast? <;> simp
    · rw [cuts_ne h, ec] at e
      cases ls with
      | nil =>
        have e1 : c :: a = p ∧ r = [] := by simpa using e
        obtain ⟨rfl, rfl⟩ := e1
        have hf : d ∉ t := by
          have := cuts_free (d := d) (s := t) a (by rw [ec]; simp)
          have hg := glue_cuts d t
          rw [ec] at hg
          rw [← hg]; exact this
        rw [List.getLast?_cons]
        constructor
        · intro h'; simp at h'
        · intro h'
          cases ht : t.getLast? with
          | none => rw [ht] at h'; simp at h'; exact absurd h' h
          | some b => rw [ht] at h'; simp at h'; exact absurd (h' ▸ List.mem_of_getLast? ht) hf
      | cons x ls =>
        have e1 : c :: a = x ∧ r = ls ++ [p] := by simpa using e
        have ih := cuts_last d t (a :: ls) p (by rw [ec, e1.2]; rfl)
        rw [ih, List.getLast?_cons]
        cases ht : t.getLast? with
        | none =>
          have : t = [] := List.getLast?_eq_none_iff.1 ht
          subst this
          rw [cuts_nil] at ec
          have := (List.cons.inj ec).2
          rw [← this] at e1
          exact absurd e1.2 (by simp)
        | some b => simp

/-! ### strings.Split at one byte -/

theorem splitK_ne {d c : UInt8} (h : c ≠ d) (t : B) (k : Nat) : splitK [d] 0 k (c :: t) = (c :: (splitK [d] 0 k t).headD []) :: (splitK [d] 0 k t).tail := by
  cases k with
  | zero => rfl
  | succ k =>
    have hp : ([d] : List UInt8).isPrefixOf (c :: t) = false := by simp [List.isPrefixOf, Ne.symm h]
    have hix : index (c :: t) [d] = if index t [d] == -1 then -1 else index t [d] + 1 := by rw [index, hp]; simp
    by_cases hm : index t [d] = -1
    · have h1 : index (c :: t) [d] = -1 := by rw [hix, if_pos (beq_iff_eq.2 hm)]
      rw [splitK, splitK, if_pos (beq_iff_eq.2 h1), if_pos (beq_iff_eq.2 hm)]; rfl
    · have hge := index_ge t [d]
      have h1 : index (c :: t) [d] = index t [d] + 1 := by rw [hix, if_neg (fun e => hm (beq_iff_eq.1 e))]
      have h2 : ¬ ((index (c :: t) [d] == -1) = true) := fun e => by have := beq_iff_eq.1 e; omega
      have h3 : (index (c :: t) [d]).toNat = (index t [d]).toNat + 1 := by omega
      rw [splitK, splitK, if_neg h2, if_neg (fun e => hm (beq_iff_eq.1 e)), h3]; rfl

theorem split_eq (d : UInt8) : ∀ s : B, split s [d] = cuts d s
  | [] => by
    have : split ([] : B) [d] = splitK [d] 0 (count [] [d]) [] := rfl
    rw [this, count_one]; rfl
  | c :: t => by
    have ih := split_eq d t
    have e1 : split (c :: t) [d] = splitK [d] 0 (count (c :: t) [d]) (c :: t) := rfl
    have e2 : split t [d] = splitK [d] 0 (count t [d]) t := rfl
    by_cases h : c = d
    · subst h
      rw [e1, count_cons_eq, Nat.add_comm, cuts_eq, ← ih, e2]
      have hix : index (c :: t) [c] = 0 := by rw [index]; simp [List.isPrefixOf]
      rw [splitK, hix]; rfl
    · rw [e1, count_cons_ne c d t h, splitK_ne h, ← e2, ih, cuts_ne h]

/-! ### Numbers -/

theorem decFrom_app : ∀ (l r : B) (acc : Nat), decFrom acc (l ++ r) = (decFrom acc l).bind fun m => decFrom m r
  | [], r, acc => rfl
  | b :: l, r, acc => by
    rw [List.cons_append, decFrom, decFrom]
    cases digitVal b with
    | none => rfl
    | some v => exact decFrom_app l r _

theorem digitVal_of (v : Nat) (h : v < 10) : digitVal (UInt8.ofNat (48 + v)) = some v := by
  have e : (UInt8.ofNat (48 + v)).toNat = 48 + v := by simp; omega
  unfold digitVal
  rw [e, if_pos (by omega)]; congr 1; omega

theorem of_digitVal {b : UInt8} {v : Nat} (h : digitVal b = some v) : v < 10 ∧ b = UInt8.ofNat (48 + v) := by
  obtain ⟨h1, h2, h3⟩ := digitVal_eq h
  refine ⟨by omega, ?_⟩
  rw [show 48 + v = b.toNat by omega]
  exact (UInt8.ofNat_toNat).symm

theorem decDigits_small {u : Nat} (h : u < 10) : decDigits u = [UInt8.ofNat (48 + u)] := by rw [decDigits, dif_pos h]
theorem decDigits_big {u : Nat} (h : ¬ u < 10) : decDigits u = decDigits (u / 10) ++ [UInt8.ofNat (48 + u % 10)] := by rw [decDigits, dif_neg h]

theorem decFrom_digits (u : Nat) : ∃ k, ∀ acc, decFrom acc (decDigits u) = some (acc * k + u) := by
  induction u using Nat.strongRecOn with
  | _ u ih =>
    by_cases h : u < 10
    · exact ⟨10, fun acc => by rw [decDigits_small h, decFrom, digitVal_of u h]; rfl⟩
    · obtain ⟨k, hk⟩ := ih (u / 10) (by omega)
      refine ⟨k * 10, fun acc => ?_⟩
      rw [decDigits_big h, decFrom_app, hk acc]
      show decFrom (acc * k + u / 10) [UInt8.ofNat (48 + u % 10)] = _
      rw [decFrom, digitVal_of (u % 10) (by omega)]
      show some ((acc * k + u / 10) * 10 + u % 10) = _
      congr 1
      rw [Nat.add_mul, Nat.mul_assoc]; omega

theorem decDigits_ne (u : Nat) : decDigits u ≠ [] := by
  by_cases h : u < 10
  · rw [decDigits_small h]; simp
  · rw [decDigits_big h]; simp

theorem decNat_digits (u : Nat) : decNat (decDigits u) = some u := by
  obtain ⟨k, hk⟩ := decFrom_digits u
  unfold decNat
  rw [if_neg (by simpa using decDigits_ne u), hk 0]; simp

theorem byte48 {v : Nat} (h : v < 10) (e : UInt8.ofNat (48 + v) = 48) : v = 0 := by
  have e1 : (UInt8.ofNat (48 + v)).toNat = 48 + v := by simp; omega
  rw [e] at e1
  have : (48 : UInt8).toNat = 48 := rfl
  omega

theorem head_app {l : B} (h : l ≠ []) (r : B) : (l ++ r).head? = l.head? := by
  cases l with
  | nil => exact absurd rfl h
  | cons a l => rfl

theorem zero_head : (decDigits 0).head? = some 48 := by rw [decDigits_small (by omega)]; rfl

theorem digits_head (u : Nat) (h0 : 0 < u) : (decDigits u).head? ≠ some 48 := by
  induction u using Nat.strongRecOn with
  | _ u ih =>
    by_cases h : u < 10
    · rw [decDigits_small h]
      intro e
      have e1 : UInt8.ofNat (48 + u) = 48 := by simpa using e
      have := byte48 h e1
      omega
    · rw [decDigits_big h, head_app (decDigits_ne _)]
      exact ih (u / 10) (by omega) (by omega)

/-- a row of digits without a zero ahead is the numeral of what it spells -/
theorem digits_back : ∀ (k : Nat) (l : B) (m : Nat), l.length = k → decNat l = some m → (l.head? = some 48 → l = [48]) → decDigits m = l
  | 0, l, m, hl, h, _ => absurd (List.length_eq_zero_iff.1 hl) (decNat_some h).1
  | k + 1, l, m, hl, h, hz => by
    obtain ⟨hne, hd⟩ := decNat_some h
    obtain ⟨l', b, rfl⟩ : ∃ l' b, l = l' ++ [b] := ⟨l.dropLast, l.getLast hne, (List.dropLast_concat_getLast hne).symm⟩
    rw [decFrom_app] at hd
    cases hm' : decFrom 0 l' with
    | none => rw [hm'] at hd; exact absurd hd (by simp)
    | some m' =>
      rw [hm'] at hd
      have hd1 : decFrom m' [b] = some m := hd
      rw [decFrom] at hd1
      cases hv : digitVal b with
      | none => rw [hv] at hd1; exact absurd hd1 (by simp)
      | some v =>
        rw [hv] at hd1
        have hmv : m' * 10 + v = m := Option.some.inj hd1
        obtain ⟨hv1, hv2⟩ := of_digitVal hv
        by_cases hn : l' = []
        · subst hn
          have : m' = 0 := (Option.some.inj hm').symm
          subst this
          rw [← hmv, decDigits_small (by omega), hv2]; simp
        · have h1 : l'.head? ≠ some 48 := by
            intro e
            have := hz (by rw [head_app hn]; exact e)
            cases l' with
            | nil => exact hn rfl
            | cons x l' => cases l' <;> simp at this
          have ih := digits_back k l' m' (by simpa using hl) (by unfold decNat; rw [if_neg (by simpa using hn)]; exact hm') (fun e => absurd e h1)
          have h0 : m' ≠ 0 := by
            rintro rfl
            rw [← ih] at h1
            exact h1 zero_head
          rw [← hmv, decDigits_big (by omega), show (m' * 10 + v) / 10 = m' by omega, show (m' * 10 + v) % 10 = v by omega, ih, hv2]

/-- the number that a word denotes, in its one notation -/
def num : B → Option Int
  | [] => none
  | c :: r =>
    if c = 45 then (if r.head? = some 48 then none else (decNat r).map fun (m : Nat) => -(m : Int))
    else if c = 48 ∧ r ≠ [] then none else (decNat (c :: r)).map fun (m : Nat) => (m : Int)

theorem digits_first (u : Nat) : ∃ c r, decDigits u = c :: r ∧ c ≠ 45 ∧ (c = 48 → r = []) := by
  cases e : decDigits u with
  | nil => exact absurd e (decDigits_ne u)
  | cons c r =>
    have hd := decNat_digits u
    rw [e] at hd
    have hd2 := (decNat_some hd).2
    refine ⟨c, r, rfl, ?_, ?_⟩
    · rintro rfl
      rw [decFrom] at hd2
      exact absurd hd2 (by simp [digitVal])
    · rintro rfl
      by_cases h0 : 0 < u
      · exact absurd (by rw [e]; rfl) (digits_head u h0)
      · have : u = 0 := by omega
        subst this
        rw [decDigits_small (by omega)] at e
        exact (List.cons.inj e).2.symm

theorem num_digits (u : Nat) : num (decDigits u) = some (u : Int) := by
  obtain ⟨c, r, e, h1, h2⟩ := digits_first u
  have hd := decNat_digits u
  rw [e] at hd
  rw [e, num, if_neg h1, if_neg (fun h => h.2 (h2 h.1)), hd]; rfl

theorem num_itoa (n : Int) : num (itoa n) = some n := by
  unfold itoa
  split
  · rename_i h
    have hd := decNat_digits n.natAbs
    rw [num, if_pos rfl, if_neg (digits_head _ (by omega)), hd]
    show some (-((n.natAbs : Nat) : Int)) = some n
    congr 1; omega
  · rw [num_digits]; congr 1; omega

theorem itoa_num {w : B} {n : Int} (h : num w = some n) : itoa n = w := by
  cases w with
  | nil => exact absurd h (by simp [num])
  | cons c r =>
    rw [num] at h
    split at h
    · rename_i hc
      split at h
      · exact absurd h (by simp)
      · rename_i hz
        cases hm : decNat r with
        | none => rw [hm] at h; exact absurd h (by simp)
        | some m =>
          rw [hm] at h
          have hn : -(m : Int) = n := Option.some.inj h
          have hb := digits_back _ r m rfl hm (fun e => absurd e hz)
          have h0 : m ≠ 0 := by
            rintro rfl
            rw [← hb] at hz
            exact hz zero_head
          unfold itoa
          rw [if_pos (by omega), hc, show n.natAbs = m by omega, hb]
    · rename_i hc
      split at h
      · exact absurd h (by simp)
      · rename_i hz
        cases hm : decNat (c :: r) with
        | none => rw [hm] at h; exact absurd h (by simp)
        | some m =>
          rw [hm] at h
          have hn : (m : Int) = n := Option.some.inj h
          have hb := digits_back _ (c :: r) m rfl hm (fun e => by
            have e1 : c = 48 := by simpa using e
            have e2 : r = [] := Decidable.byContradiction fun h' => hz ⟨e1, h'⟩
            rw [e1, e2])
          unfold itoa
          rw [if_neg (by omega), show n.toNat = m by omega, hb]

theorem digit_mem (u : Nat) : ∀ b ∈ decDigits u, 48 ≤ b.toNat ∧ b.toNat ≤ 57 := by
  intro b hb
  obtain ⟨k, hk⟩ := List.getElem?_of_mem hb
  obtain ⟨d, hd⟩ := digit_of_decFrom _ _ _ (decNat_some (decNat_digits u)).2 k b hk
  obtain ⟨h1, h2, _⟩ := digitVal_eq hd
  exact ⟨h1, h2⟩

theorem itoa_mem (n : Int) : ∀ b ∈ itoa n, 45 ≤ b.toNat ∧ b.toNat ≤ 57 := by
  intro b hb
  unfold itoa at hb
  split at hb
  · rcases List.mem_cons.1 hb with rfl | hb
    · decide
    · have := digit_mem _ b hb; omega
  · have := digit_mem _ b hb; omega

theorem itoa_no (n : Int) {d : UInt8} (hd : d.toNat < 45) : d ∉ itoa n := fun h => by have := itoa_mem n d h; omega

/-- z is n, or both are beyond the same end -/
def Sat (n z : Int) : Prop := z = n ∨ (1048576 < n ∧ 1048576 < z) ∨ (n < -1048576 ∧ z < -1048576)

def nums : List B → Option (List Int)
  | [] => some []
  | w :: r => match num w, nums r with
    | some n, some l => some (n :: l)
    | _, _ => none

theorem nums_itoa : ∀ l : List Int, nums (l.map itoa) = some l
  | [] => rfl
  | n :: l => by rw [List.map_cons, nums, num_itoa, nums_itoa l]

theorem itoa_nums : ∀ {ws : List B} {l : List Int}, nums ws = some l → ws = l.map itoa
  | [], l, h => by have := Option.some.inj h; subst this; rfl
  | w :: r, l, h => by
    rw [nums] at h
    cases h1 : num w with
    | none => rw [h1] at h; exact absurd h (by simp)
    | some n =>
      cases h2 : nums r with
      | none => rw [h1, h2] at h; exact absurd h (by simp)
      | some l' =>
        rw [h1, h2] at h
        have := Option.some.inj h
        subst this
        rw [List.map_cons, itoa_num h1, ← itoa_nums h2]

theorem nums_length {ws : List B} {l : List Int} (h : nums ws = some l) : ws.length = l.length := by rw [itoa_nums h]; simp

end Go.Proofs.YtphaigncbenmmaaGreatDoor
