/- A line's words in plain Lean, step by step as parseLine takes them. -/
import Derived.Test.YtphaigncbenmmaaGreatDoorDig
namespace Go.Proofs.YtphaigncbenmmaaGreatDoor
open Go Go.Lib

def lineW : List B → Option Ro
  | k :: i :: a :: b :: c :: d :: e :: r => match nums18 [a, b, c, d, e], flawsOf r with
    | some [n, w, tl, ta, tb], some fs => if k = Troll ∧ i ≠ [] then some ⟨i, w, n, tl, ta, tb, fs⟩ else none
    | _, _ => none
  | _ => none
theorem lineOf_eq (s : B) : lineOf s = lineW (cuts 32 s) := rfl

theorem itoa_ne (n : Int) : itoa n ≠ [] := by
  unfold itoa
  split
  · simp
  · exact decDigits_ne _
theorem lineW_words {ws : List B} {r : Ro} (h : lineW ws = some r) : ws = wordsOf r ∧ r.id ≠ [] := by
  unfold lineW at h
  split at h
  · rename_i k i a b c d e rest
    cases h1 : nums18 [a, b, c, d, e] with
    | none => rw [h1] at h; cases h
    | some ns =>
      have hl := nums18_len h1
      match ns, hl with
      | [n, w, tl, ta, tb], _ =>
        cases h2 : flawsOf rest with
        | none => rw [h1, h2] at h; cases h
        | some fs =>
          rw [h1, h2] at h
          simp only at h
          split at h
          · rename_i hk
            have := Option.some.inj h
            subst this
            have hw := itoa_nums18 h1
            simp only [List.map_cons, List.map_nil, List.cons.injEq, and_true] at hw
            obtain ⟨rfl, rfl, rfl, rfl, rfl⟩ := hw
            have := words_flaws _ rest fs (Nat.le_refl _) h2
            refine ⟨?_, hk.2⟩
            unfold wordsOf
            rw [this, hk.1]; rfl
          · cases h
  · cases h
theorem flaw_words_ne (fs : List Fl) : [] ∉ fs.flatMap flawW := by
  intro h
  obtain ⟨f, _, h⟩ := List.mem_flatMap.1 h
  unfold flawW at h
  rcases List.mem_cons.1 h with h | h
  · exact absurd h (by decide)
  · obtain ⟨n, _, h⟩ := List.mem_map.1 h
    exact itoa_ne n h
theorem lineW_empty {ws : List B} (h : [] ∈ ws) : lineW ws = none := by
  cases e : lineW ws with
  | none => rfl
  | some r =>
    obtain ⟨h1, h2⟩ := lineW_words e
    rw [h1] at h
    unfold wordsOf at h
    rcases List.mem_cons.1 h with h | h
    · exact absurd h (by decide)
    · rcases List.mem_cons.1 h with h | h
      · exact absurd h.symm h2
      · rcases List.mem_append.1 h with h | h
        · obtain ⟨n, _, h⟩ := List.mem_map.1 h
          exact absurd h (itoa_ne n)
        · exact absurd h (flaw_words_ne _)
theorem lineW_kind {k : B} {r : List B} (h : k ≠ Troll) : lineW (k :: r) = none := by
  cases e : lineW (k :: r) with
  | none => rfl
  | some ro =>
    have := (lineW_words e).1
    exact absurd (List.cons.inj this).1 h
theorem flaw_words_len (fs : List Fl) : (fs.flatMap flawW).length = 5 * fs.length := by
  induction fs with
  | nil => rfl
  | cons f fs ih => rw [List.flatMap_cons, List.length_append, ih, List.length_cons]; simp [flawW]; omega
theorem lineW_len {ws : List B} (h : ws.length < 7 ∨ (ws.length - 7) % 5 ≠ 0) : lineW ws = none := by
  cases e : lineW ws with
  | none => rfl
  | some ro =>
    have h1 := (lineW_words e).1
    have h2 : ws.length = 7 + 5 * ro.fl.length := by
      rw [h1]
      unfold wordsOf
      rw [List.length_cons, List.length_cons, List.length_append, flaw_words_len]; simp; omega
    omega
theorem lineW_nums {k i a b c d e : B} {r : List B} (h : nums18 [a, b, c, d, e] = none) : lineW (k :: i :: a :: b :: c :: d :: e :: r) = none := by
  unfold lineW; simp only [h]
theorem lineW_flaws {i a b c d e : B} {r : List B} {n w tl ta tb : Int} (h : nums18 [a, b, c, d, e] = some [n, w, tl, ta, tb]) (hi : i ≠ []) :
    lineW (Troll :: i :: a :: b :: c :: d :: e :: r) = (flawsOf r).map fun fs => ⟨i, w, n, tl, ta, tb, fs⟩ := by
  unfold lineW; simp only [h]
  cases flawsOf r with
  | none => rfl
  | some fs => simp [hi]

/-- the flaws of the words r are those in done and those of the words that are left -/
structure FlUp (r rest : List B) (done : List Fl) : Prop where
  eq : flawsOf r = (flawsOf rest).map fun l => done ++ l
theorem FlUp.start (r : List B) : FlUp r r [] := ⟨by cases flawsOf r <;> rfl⟩
theorem FlUp.no {r rest : List B} {done : List Fl} (h : FlUp r rest done) (h1 : flawsOf rest = none) : flawsOf r = none := by rw [h.eq, h1]; rfl
theorem FlUp.fin {r : List B} {done : List Fl} (h : FlUp r [] done) : flawsOf r = some done := by rw [h.eq]; simp [flawsOf]
theorem flaws_nums {k a b c d : B} {r : List B} (h : nums18 [a, b, c, d] = none) : flawsOf (k :: a :: b :: c :: d :: r) = none := by
  rw [flawsOf]; simp only [h]
theorem flaws_kind {k a b c d : B} {r : List B} (h : k ≠ Tflaw) : flawsOf (k :: a :: b :: c :: d :: r) = none := by
  cases e : flawsOf (k :: a :: b :: c :: d :: r) with
  | none => rfl
  | some fs =>
    have := words_flaws _ _ fs (Nat.le_refl _) e
    cases fs with
    | nil => cases this
    | cons f fs =>
      rw [List.flatMap_cons] at this
      exact absurd (List.cons.inj this).1 h
theorem FlUp.next {r a b c d : B} {rest R : List B} {done : List Fl} (h : FlUp R (r :: a :: b :: c :: d :: rest) done) (hk : r = Tflaw) {x y w t : Int} (h1 : nums18 [a, b, c, d] = some [x, y, w, t]) : FlUp R rest (done ++ [⟨x, y, w, t⟩]) := by
  refine ⟨?_⟩
  rw [h.eq, flawsOf]
  simp only [h1]
  cases flawsOf rest with
  | none => rfl
  | some l => simp [hk]

theorem seven_of {α : Type} {l : List α} (h : 7 ≤ l.length) : ∃ a b c d e f g r, l = a :: b :: c :: d :: e :: f :: g :: r := by
  match l, h with
  | a :: b :: c :: d :: e :: f :: g :: r, _ => exact ⟨_, _, _, _, _, _, _, _, rfl⟩
theorem five_of {α : Type} {l : List α} (h : 5 ≤ l.length) : ∃ a b c d e r, l = a :: b :: c :: d :: e :: r := by
  match l, h with
  | a :: b :: c :: d :: e :: r, _ => exact ⟨_, _, _, _, _, _, rfl⟩
theorem lineN_no {R : List B} (h : 7 ≤ R.length) (hn : nums18 ((R.take 7).drop 2) = none) : lineW R = none := by
  obtain ⟨a, b, c, d, e, f, g, r, rfl⟩ := seven_of h
  exact lineW_nums hn
theorem lineN_yes {R : List B} (h : 7 ≤ R.length) (h0 : R[0] = Troll) (h1 : R[1] ≠ []) {n w tl ta tb : Int} (hn : nums18 ((R.take 7).drop 2) = some [n, w, tl, ta, tb]) :
    lineW R = (flawsOf (R.drop 7)).map fun fs => ⟨R[1], w, n, tl, ta, tb, fs⟩ := by
  obtain ⟨a, b, c, d, e, f, g, r, rfl⟩ := seven_of h
  have h0 : a = Troll := h0
  subst h0
  exact lineW_flaws hn h1
theorem lineK_no {R : List B} (h : 0 < R.length) (h0 : R[0] ≠ Troll) : lineW R = none := by
  cases R with
  | nil => simp at h
  | cons k r => exact lineW_kind h0
theorem FlUp.noN {R rest : List B} {done : List Fl} (h : FlUp R rest done) (h5 : 5 ≤ rest.length) (hn : nums18 ((rest.take 5).drop 1) = none) : flawsOf R = none := by
  obtain ⟨a, b, c, d, e, r, rfl⟩ := five_of h5
  exact h.no (flaws_nums hn)
theorem FlUp.noK {R rest : List B} {done : List Fl} (h : FlUp R rest done) (h5 : 5 ≤ rest.length) (h0 : rest[0] ≠ Tflaw) : flawsOf R = none := by
  obtain ⟨a, b, c, d, e, r, rfl⟩ := five_of h5
  exact h.no (flaws_kind h0)
theorem FlUp.nextN {R rest : List B} {done : List Fl} (h : FlUp R rest done) (h5 : 5 ≤ rest.length) (h0 : rest[0] = Tflaw) {x y w t : Int} (hn : nums18 ((rest.take 5).drop 1) = some [x, y, w, t]) : FlUp R (rest.drop 5) (done ++ [⟨x, y, w, t⟩]) := by
  obtain ⟨a, b, c, d, e, r, rfl⟩ := five_of h5
  exact h.next h0 hn
theorem four_nums {ws : List B} {l : List Int} (h : nums18 ws = some l) (hl : ws.length = 4) : ∃ a b c d, l = [a, b, c, d] := by
  have := nums18_len h
  rw [hl] at this
  match l, this with
  | [a, b, c, d], _ => exact ⟨_, _, _, _, rfl⟩
theorem five_nums {ws : List B} {l : List Int} (h : nums18 ws = some l) (hl : ws.length = 5) : ∃ a b c d e, l = [a, b, c, d, e] := by
  have := nums18_len h
  rw [hl] at this
  match l, this with
  | [a, b, c, d, e], _ => exact ⟨_, _, _, _, _, rfl⟩

end Go.Proofs.YtphaigncbenmmaaGreatDoor
