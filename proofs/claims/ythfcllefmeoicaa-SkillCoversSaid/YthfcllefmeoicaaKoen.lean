/- Kuhn's search finds a largest matching, and a cover of the same size (Koenig). Plain Lean. -/
import Derived.Test.YthfcllefmeoicaaKuhn
namespace Go.Proofs.Ythfcllefmeoicaa

/-- how many numbers below n have the property -/
def cnt (n : Nat) (p : Nat → Bool) : Nat := (List.range n).countP p

theorem cnt_zero (p : Nat → Bool) : cnt 0 p = 0 := rfl
theorem cnt_succ (n : Nat) (p : Nat → Bool) : cnt (n + 1) p = cnt n p + if p n then 1 else 0 := by
  unfold cnt
  rw [List.range_succ, List.countP_append, List.countP_cons, List.countP_nil, Nat.zero_add]
theorem cnt_mono {n : Nat} {p q : Nat → Bool} (h : ∀ i, i < n → p i = true → q i = true) : cnt n p ≤ cnt n q := by
  unfold cnt
  exact List.countP_mono_left fun i hi => h i (by simpa using hi)
theorem cnt_congr {n : Nat} {p q : Nat → Bool} (h : ∀ i, i < n → p i = q i) : cnt n p = cnt n q :=
  Nat.le_antisymm (cnt_mono fun i hi e => by rw [← h i hi]; exact e) (cnt_mono fun i hi e => by rw [h i hi]; exact e)
theorem cnt_le (n : Nat) (p : Nat → Bool) : cnt n p ≤ n := by
  unfold cnt; have := List.countP_le_length (p := p) (l := List.range n); simpa using this
theorem cnt_remove {q : Nat → Bool} {x : Nat} : ∀ {n : Nat}, x < n → q x = true → cnt n q = cnt n (fun i => q i && !(i == x)) + 1
  | 0, h, _ => absurd h (by omega)
  | n + 1, h, hq => by
    rw [cnt_succ, cnt_succ]
    by_cases e : x = n
    · subst e
      have : cnt x q = cnt x (fun i => q i && !(i == x)) := cnt_congr fun i hi => by
        have : (i == x) = false := by simp; omega
        simp [this]
      simp [hq, this]
    · have ih := cnt_remove (q := q) (x := x) (n := n) (by omega) hq
      have : (n == x) = false := by simp; omega
      rw [ih]; simp only [this, Bool.not_false, Bool.and_true]; omega
theorem cnt_inj (m : Nat) : ∀ (n : Nat) (p q : Nat → Bool) (φ : Nat → Nat), (∀ j, j < n → p j = true → φ j < m ∧ q (φ j) = true) →
    (∀ i j, i < n → j < n → p i = true → p j = true → φ i = φ j → i = j) → cnt n p ≤ cnt m q
  | 0, _, _, _, _, _ => by simp [cnt]
  | n + 1, p, q, φ, h1, h2 => by
    rw [cnt_succ]
    cases hp : p n with
    | false => simp; exact cnt_inj m n p q φ (fun j hj => h1 j (by omega)) (fun i j hi hj => h2 i j (by omega) (by omega))
    | true =>
      obtain ⟨ha, hb⟩ := h1 n (by omega) hp
      rw [cnt_remove ha hb]
      have := cnt_inj m n p (fun i => q i && !(i == φ n)) φ (fun j hj hpj => ⟨(h1 j (by omega) hpj).1, by
        have hne : φ j ≠ φ n := fun e => by have := h2 j n (by omega) (by omega) hpj hp e; omega
        simp [(h1 j (by omega) hpj).2, hne]⟩) (fun i j hi hj => h2 i j (by omega) (by omega))
      simp; omega
theorem cnt_split (p z : Nat → Bool) : ∀ n, cnt n p = cnt n (fun i => p i && z i) + cnt n (fun i => p i && !z i)
  | 0 => rfl
  | n + 1 => by
    rw [cnt_succ, cnt_succ, cnt_succ, cnt_split p z n]
    cases p n <;> cases z n <;> simp <;> omega

/-- A matching: each need has no worker (-1), or one who is able and not busy; no worker has two needs. -/
structure IsMt (cs : List (Nat → Bool)) (b : Nat → Bool) (m : Nat → Int) : Prop where
  ok : ∀ j, j < cs.length → m j = -1 ∨ ∃ i : Nat, i < 12 ∧ m j = i ∧ csAt cs j i = true ∧ b i = false
  inj : ∀ j k, j < cs.length → k < cs.length → m j = m k → m j ≠ -1 → j = k
/-- how many of n needs have a worker -/
def fillN (n : Nat) (m : Nat → Int) : Nat := cnt n fun j => decide (0 ≤ m j)
/-- a worker outside of Z who is not busy can fill need j -/
def uncB (cs : List (Nat → Bool)) (b Z : Nat → Bool) (j : Nat) : Bool := (List.range 12).any fun i => csAt cs j i && !b i && !Z i
theorem uncB_iff (cs : List (Nat → Bool)) (b Z : Nat → Bool) (j : Nat) : uncB cs b Z j = true ↔ ∃ i, i < 12 ∧ csAt cs j i = true ∧ b i = false ∧ Z i = false := by
  unfold uncB
  rw [List.any_eq_true]
  constructor
  · rintro ⟨i, hi, h⟩
    simp at hi h
    exact ⟨i, hi, h.1.1, h.1.2, h.2⟩
  · rintro ⟨i, hi, h1, h2, h3⟩
    exact ⟨i, by simpa using hi, by simp [h1, h2, h3]⟩

/-- no matching is larger than a cover -/
theorem weak {cs : List (Nat → Bool)} {b : Nat → Bool} {m : Nat → Int} (h : IsMt cs b m) (Z : Nat → Bool) :
    fillN cs.length m ≤ cnt 12 Z + cnt cs.length (uncB cs b Z) := by
  unfold fillN
  rw [cnt_split (fun j => decide (0 ≤ m j)) (fun j => Z (m j).toNat)]
  refine Nat.add_le_add ?_ ?_
  · refine cnt_inj 12 cs.length _ _ (fun j => (m j).toNat) ?_ ?_
    · intro j hj hp
      simp at hp
      rcases h.ok j hj with e | ⟨i, hi, e, _, _⟩
      · rw [e] at hp; simp at hp
      · have : (m j).toNat = i := by omega
        exact ⟨by omega, hp.2⟩
    · intro i j hi hj hp hq e
      simp at hp hq
      refine h.inj i j hi hj (by omega) (by omega)
  · refine cnt_mono fun j hj hp => ?_
    simp at hp
    rw [uncB_iff]
    rcases h.ok j hj with e | ⟨i, hi, e, h1, h2⟩
    · rw [e] at hp; simp at hp
    · have e2 : (m j).toNat = i := by omega
      exact ⟨i, hi, h1, h2, by rw [← e2]; exact hp.2⟩

theorem loopM_sub {rec : Nat → (Nat → Int) → (Nat → Bool) → St} {can : Nat → Bool} {k : Nat} (hrec : ∀ k f s, SubS s (rec k f s).2.2) :
    ∀ (l : List Nat) (f : Nat → Int) (s : Nat → Bool), SubS s (loopM rec can k l f s).2.2
  | [], f, s => SubS.refl s
  | x :: r, f, s => by
    cases h : (can x && !s x) with
    | false => rw [loopM_skip h]; exact loopM_sub hrec r f s
    | true =>
      by_cases h0 : f x = -1
      · rw [loopM_free h h0]; exact SubS.upd s x
      · have h1 := hrec (f x).toNat f (upd s x true)
        cases hq : (rec (f x).toNat f (upd s x true)).1 with
        | true => rw [loopM_yes h h0 hq]; exact (SubS.upd s x).trans h1
        | false => rw [loopM_no h h0 hq]; exact ((SubS.upd s x).trans h1).trans (loopM_sub hrec r _ _)
theorem fillM_sub (cs : List (Nat → Bool)) : ∀ n k f s, SubS s (fillM cs n k f s).2.2
  | 0, _, _, s => SubS.refl s
  | n + 1, _, f, s => loopM_sub (fillM_sub cs n) _ f s

/-- a search that fails leaves the needs of the workers as they were -/
theorem loopM_same {rec : Nat → (Nat → Int) → (Nat → Bool) → St} {can : Nat → Bool} {k : Nat} (hrec : ∀ k f s, (rec k f s).1 = false → (rec k f s).2.1 = f) :
    ∀ (l : List Nat) (f : Nat → Int) (s : Nat → Bool), (loopM rec can k l f s).1 = false → (loopM rec can k l f s).2.1 = f
  | [], f, s, _ => rfl
  | x :: r, f, s, hf => by
    cases h : (can x && !s x) with
    | false => rw [loopM_skip h] at hf ⊢; exact loopM_same hrec r f s hf
    | true =>
      by_cases h0 : f x = -1
      · rw [loopM_free h h0] at hf; cases hf
      · cases hq : (rec (f x).toNat f (upd s x true)).1 with
        | true => rw [loopM_yes h h0 hq] at hf; cases hf
        | false =>
          have h1 := hrec _ _ _ hq
          rw [loopM_no h h0 hq] at hf ⊢
          rw [loopM_same hrec r _ _ hf, h1]
theorem fillM_same (cs : List (Nat → Bool)) : ∀ n k f s, (fillM cs n k f s).1 = false → (fillM cs n k f s).2.1 = f
  | 0, _, _, _, _ => rfl
  | n + 1, _, f, s, h => loopM_same (fillM_same cs n) _ f s h

/-- f is a matching among the workers that are not marked -/
structure Ok (cs : List (Nat → Bool)) (s : Nat → Bool) (f : Nat → Int) : Prop where
  able : ∀ i, i < 12 → s i = false → f i ≠ -1 → 0 ≤ f i ∧ csAt cs (f i).toNat i = true
  inj : ∀ i j, i < 12 → j < 12 → s i = false → s j = false → f i = f j → f i ≠ -1 → i = j
/-- nobody who is not marked has need k -/
def Free (s : Nat → Bool) (k : Nat) (f : Nat → Int) : Prop := ∀ i, i < 12 → s i = false → f i ≠ k
/-- what a search that succeeds does -/
structure SP (cs : List (Nat → Bool)) (s : Nat → Bool) (k : Nat) (f f' : Nat → Int) : Prop where
  keep : ∀ i, s i = true → f' i = f i
  able : ∀ i, i < 12 → s i = false → f' i ≠ -1 → 0 ≤ f' i ∧ csAt cs (f' i).toNat i = true
  inj : ∀ i j, i < 12 → j < 12 → s i = false → s j = false → f' i = f' j → f' i ≠ -1 → i = j
  who : ∀ i, i < 12 → s i = false → f' i ≠ -1 → f' i = k ∨ ∃ j, j < 12 ∧ s j = false ∧ f j = f' i
  stay : ∀ j, j < 12 → s j = false → f j ≠ -1 → ∃ i, i < 12 ∧ s i = false ∧ f' i = f j
  has : ∃ i, i < 12 ∧ s i = false ∧ f' i = k
  more : ∃ y, y < 12 ∧ s y = false ∧ f y = -1 ∧ f' y ≠ -1 ∧ ∀ i, i < 12 → i ≠ y → (f' i = -1 ↔ f i = -1)

theorem SubS.no {s t : Nat → Bool} (h : SubS s t) {i : Nat} (hi : t i = false) : s i = false := by
  cases e : s i with
  | false => rfl
  | true => rw [h i e] at hi; cases hi
theorem Ok.sub {cs : List (Nat → Bool)} {s t : Nat → Bool} {f : Nat → Int} (h : Ok cs s f) (g : SubS s t) : Ok cs t f :=
  ⟨fun i hi hs => h.able i hi (g.no hs), fun i j hi hj h1 h2 => h.inj i j hi hj (g.no h1) (g.no h2)⟩
theorem Free.sub {s t : Nat → Bool} {k : Nat} {f : Nat → Int} (h : Free s k f) (g : SubS s t) : Free t k f := fun i hi hs => h i hi (g.no hs)

theorem SP.weaken {cs : List (Nat → Bool)} {s t : Nat → Bool} {k : Nat} {f f' : Nat → Int} (hO : Ok cs s f) (hk : Free s k f) (g : SubS s t) (h : SP cs t k f f') : SP cs s k f f' := by
  have cross : ∀ i j, i < 12 → j < 12 → s i = false → t i = true → t j = false → f' i = f' j → f' i ≠ -1 → False := by
    intro i j hi hj hs ht htj e hne
    have e1 := h.keep i ht
    rcases h.who j hj htj (by rw [← e]; exact hne) with e2 | ⟨j', hj', ht', e2⟩
    · exact hk i hi hs (by rw [← e1, e, e2])
    · have := hO.inj i j' hi hj' hs (g.no ht') (by rw [e2, ← e, e1]) (by rw [← e1]; exact hne)
      subst this
      rw [ht] at ht'; cases ht'
  refine ⟨fun i hi => h.keep i (g i hi), fun i hi hs hne => ?_, fun i j hi hj h1 h2 e hne => ?_, fun i hi hs hne => ?_, fun j hj hs hne => ?_, ?_, ?_⟩
  · cases ht : t i with
    | false => exact h.able i hi ht hne
    | true => rw [h.keep i ht] at hne ⊢; exact hO.able i hi hs hne
  · cases hi' : t i with
    | false =>
      cases hj' : t j with
      | false => exact h.inj i j hi hj hi' hj' e hne
      | true => exact (cross j i hj hi h2 hj' hi' e.symm (by rw [← e]; exact hne)).elim
    | true =>
      cases hj' : t j with
      | false => exact (cross i j hi hj h1 hi' hj' e hne).elim
      | true =>
        rw [h.keep i hi'] at e hne
        rw [h.keep j hj'] at e
        exact hO.inj i j hi hj h1 h2 e hne
  · cases ht : t i with
    | false =>
      rcases h.who i hi ht hne with e | ⟨j, hj, hs', e⟩
      · exact .inl e
      · exact .inr ⟨j, hj, g.no hs', e⟩
    | true => exact .inr ⟨i, hi, hs, (h.keep i ht).symm⟩
  · cases ht : t j with
    | false => obtain ⟨i, hi, h1, e⟩ := h.stay j hj ht hne; exact ⟨i, hi, g.no h1, e⟩
    | true => exact ⟨j, hj, hs, h.keep j ht⟩
  · obtain ⟨i, hi, h1, e⟩ := h.has; exact ⟨i, hi, g.no h1, e⟩
  · obtain ⟨y, hy, h1, e⟩ := h.more; exact ⟨y, hy, g.no h1, e⟩

theorem upd_mark {s : Nat → Bool} {x i : Nat} (h : upd s x true i = false) : i ≠ x ∧ s i = false := by
  unfold upd at h
  by_cases e : i = x
  · simp [e] at h
  · simp [e] at h; exact ⟨e, h⟩
theorem upd_mark' {s : Nat → Bool} {x i : Nat} (h1 : i ≠ x) (h : s i = false) : upd s x true i = false := by simp [upd, h1, h]

theorem sp_free {cs : List (Nat → Bool)} {s : Nat → Bool} {k x : Nat} {f : Nat → Int} (hO : Ok cs s f) (hk : Free s k f) (hx : x < 12) (hs : s x = false) (hc : csAt cs k x = true) (h0 : f x = -1) : SP cs s k f (upd f x k) := by
  refine ⟨fun i hi => upd_ne _ _ _ (fun e => by subst e; rw [hs] at hi; cases hi), fun i hi h1 hne => ?_, fun i j hi hj h1 h2 e hne => ?_, fun i hi h1 hne => ?_, fun j hj h1 hne => ?_, ⟨x, hx, hs, upd_same _ _ _⟩, ⟨x, hx, hs, h0, by rw [upd_same]; omega, fun i _ hne => by rw [upd_ne _ _ _ hne]⟩⟩
  · by_cases e : i = x
    · subst e; rw [upd_same]; exact ⟨by omega, by simpa using hc⟩
    · rw [upd_ne _ _ _ e] at hne ⊢; exact hO.able i hi h1 hne
  · by_cases ei : i = x
    · by_cases ej : j = x
      · rw [ei, ej]
      · rw [ei, upd_same, upd_ne _ _ _ ej] at e
        exact absurd e.symm (hk j hj h2)
    · by_cases ej : j = x
      · rw [ej, upd_same, upd_ne _ _ _ ei] at e
        exact absurd e (hk i hi h1)
      · rw [upd_ne _ _ _ ei] at e hne
        rw [upd_ne _ _ _ ej] at e
        exact hO.inj i j hi hj h1 h2 e hne
  · by_cases e : i = x
    · subst e; rw [upd_same]; exact .inl rfl
    · rw [upd_ne _ _ _ e]; exact .inr ⟨i, hi, h1, rfl⟩
  · have : j ≠ x := fun e => hne (by rw [e]; exact h0)
    exact ⟨j, hj, h1, upd_ne _ _ _ this⟩

theorem sp_yes {cs : List (Nat → Bool)} {s : Nat → Bool} {k x : Nat} {f f2 : Nat → Int} (hO : Ok cs s f) (hk : Free s k f) (hx : x < 12) (hs : s x = false) (hc : csAt cs k x = true) (h0 : ¬ f x = -1)
    (h : SP cs (upd s x true) (f x).toNat f f2) : SP cs s k f (upd f2 x k) := by
  have hfx : ((f x).toNat : Int) = f x := by have := (hO.able x hx hs h0).1; omega
  have hno : ∀ j, j < 12 → s j = false → j ≠ x → f2 j ≠ k := by
    intro j hj h1 hne e
    rcases h.who j hj (upd_mark' hne h1) (by rw [e]; omega) with e2 | ⟨j', hj', h2, e2⟩
    · rw [hfx] at e2; exact hk x hx hs (by rw [← e2, e])
    · exact hk j' hj' (upd_mark h2).2 (by rw [e2, e])
  refine ⟨fun i hi => ?_, fun i hi h1 hne => ?_, fun i j hi hj h1 h2 e hne => ?_, fun i hi h1 hne => ?_, fun j hj h1 hne => ?_, ⟨x, hx, hs, upd_same _ _ _⟩, ?_⟩
  · have e : i ≠ x := fun e => by subst e; rw [hs] at hi; cases hi
    rw [upd_ne _ _ _ e]
    exact h.keep i (SubS.upd s x i hi)
  · by_cases e : i = x
    · subst e; rw [upd_same]; exact ⟨by omega, by simpa using hc⟩
    · rw [upd_ne _ _ _ e] at hne ⊢; exact h.able i hi (upd_mark' e h1) hne
  · by_cases ei : i = x
    · by_cases ej : j = x
      · rw [ei, ej]
      · rw [ei, upd_same, upd_ne _ _ _ ej] at e
        exact absurd e.symm (hno j hj h2 ej)
    · by_cases ej : j = x
      · rw [ej, upd_same, upd_ne _ _ _ ei] at e
        exact absurd e (hno i hi h1 ei)
      · rw [upd_ne _ _ _ ei] at e hne
        rw [upd_ne _ _ _ ej] at e
        exact h.inj i j hi hj (upd_mark' ei h1) (upd_mark' ej h2) e hne
  · by_cases e : i = x
    · subst e; rw [upd_same]; exact .inl rfl
    · rw [upd_ne _ _ _ e] at hne ⊢
      rcases h.who i hi (upd_mark' e h1) hne with e2 | ⟨j, hj, h2, e2⟩
      · exact .inr ⟨x, hx, hs, by rw [e2, hfx]⟩
      · exact .inr ⟨j, hj, (upd_mark h2).2, e2⟩
  · by_cases e : j = x
    · subst e
      obtain ⟨i, hi, h2, e2⟩ := h.has
      exact ⟨i, hi, (upd_mark h2).2, by rw [upd_ne _ _ _ (upd_mark h2).1, e2, hfx]⟩
    · obtain ⟨i, hi, h2, e2⟩ := h.stay j hj (upd_mark' e h1) hne
      exact ⟨i, hi, (upd_mark h2).2, by rw [upd_ne _ _ _ (upd_mark h2).1, e2]⟩
  · obtain ⟨y, hy, h1, h2, h3, h4⟩ := h.more
    refine ⟨y, hy, (upd_mark h1).2, h2, by rw [upd_ne _ _ _ (upd_mark h1).1]; exact h3, fun i hi hne => ?_⟩
    by_cases e : i = x
    · subst e; rw [upd_same]; exact ⟨fun e => by omega, fun e => absurd e h0⟩
    · rw [upd_ne _ _ _ e]; exact h4 i hi hne

theorem loopM_sp {cs : List (Nat → Bool)} {rec : Nat → (Nat → Int) → (Nat → Bool) → St} {k : Nat}
    (hrec : ∀ k f s, Ok cs s f → Free s k f → (rec k f s).1 = true → SP cs s k f (rec k f s).2.1)
    (hsame : ∀ k f s, (rec k f s).1 = false → (rec k f s).2.1 = f) (hsub : ∀ k f s, SubS s (rec k f s).2.2) :
    ∀ (l : List Nat) (f : Nat → Int) (s : Nat → Bool), (∀ x ∈ l, x < 12) → Ok cs s f → Free s k f → (loopM rec (csAt cs k) k l f s).1 = true → SP cs s k f (loopM rec (csAt cs k) k l f s).2.1
  | [], f, s, _, _, _, ht => by cases ht
  | x :: r, f, s, hl, hO, hk, ht => by
    have hr : ∀ y ∈ r, y < 12 := fun y hy => hl y (List.mem_cons_of_mem _ hy)
    have hx : x < 12 := hl x List.mem_cons_self
    cases h : (csAt cs k x && !s x) with
    | false => rw [loopM_skip h] at ht ⊢; exact loopM_sp hrec hsame hsub r f s hr hO hk ht
    | true =>
      have hc : csAt cs k x = true := by cases e : csAt cs k x with | true => rfl | false => rw [e] at h; cases h
      have hs : s x = false := by cases e : s x with | false => rfl | true => rw [e, hc] at h; cases h
      by_cases h0 : f x = -1
      · rw [loopM_free h h0]; exact sp_free hO hk hx hs hc h0
      · have hfx : ((f x).toNat : Int) = f x := by have := (hO.able x hx hs h0).1; omega
        have hsb := SubS.upd s x
        have hO1 := hO.sub hsb
        have hk1 : Free (upd s x true) (f x).toNat f := fun i hi h1 e => by
          rw [hfx] at e
          have := hO.inj i x hi hx (upd_mark h1).2 hs e (by rw [e]; exact h0)
          exact (upd_mark h1).1 this
        cases hq : (rec (f x).toNat f (upd s x true)).1 with
        | true => rw [loopM_yes h h0 hq]; exact sp_yes hO hk hx hs hc h0 (hrec _ _ _ hO1 hk1 hq)
        | false =>
          have h1 := hsame _ _ _ hq
          have h2 := hsb.trans (hsub (f x).toNat f (upd s x true))
          rw [loopM_no h h0 hq, h1] at ht ⊢
          exact SP.weaken hO hk h2 (loopM_sp hrec hsame hsub r f _ hr (hO.sub h2) (hk.sub h2) ht)
theorem fillM_sp (cs : List (Nat → Bool)) : ∀ n k f s, Ok cs s f → Free s k f → (fillM cs n k f s).1 = true → SP cs s k f (fillM cs n k f s).2.1
  | 0, _, _, _, _, _, h => by cases h
  | n + 1, _, f, s, hO, hk, h => loopM_sp (fillM_sp cs n) (fillM_same cs n) (fillM_sub cs n) _ f s (by simp) hO hk h

/-- what a search that fails has marked -/
structure FP (cs : List (Nat → Bool)) (s : Nat → Bool) (f : Nat → Int) (s' : Nat → Bool) : Prop where
  sub : SubS s s'
  shut : ∀ i, i < 12 → s' i = true → s i = false → f i ≠ -1 ∧ ∀ j, j < 12 → csAt cs (f i).toNat j = true → s' j = true

theorem loopM_fp {cs : List (Nat → Bool)} {rec : Nat → (Nat → Int) → (Nat → Bool) → St} {k n : Nat}
    (hrec : ∀ k f s, unseen s < n → (rec k f s).1 = false → FP cs s f (rec k f s).2.2 ∧ ∀ j, j < 12 → csAt cs k j = true → (rec k f s).2.2 j = true)
    (hsame : ∀ k f s, (rec k f s).1 = false → (rec k f s).2.1 = f) :
    ∀ (l : List Nat) (f : Nat → Int) (s : Nat → Bool), (∀ x ∈ l, x < 12) → unseen s < n + 1 → (loopM rec (csAt cs k) k l f s).1 = false →
      FP cs s f (loopM rec (csAt cs k) k l f s).2.2 ∧ ∀ j ∈ l, csAt cs k j = true → (loopM rec (csAt cs k) k l f s).2.2 j = true
  | [], f, s, _, _, _ => ⟨⟨SubS.refl s, fun i _ h1 h2 => by have h3 : s i = true := h1; rw [h3] at h2; cases h2⟩, fun j h => by cases h⟩
  | x :: r, f, s, hl, hu, ht => by
    have hr : ∀ y ∈ r, y < 12 := fun y hy => hl y (List.mem_cons_of_mem _ hy)
    have hx : x < 12 := hl x List.mem_cons_self
    cases h : (csAt cs k x && !s x) with
    | false =>
      rw [loopM_skip h] at ht ⊢
      have ih := loopM_fp hrec hsame r f s hr hu ht
      refine ⟨ih.1, fun j hj hc => ?_⟩
      rcases List.mem_cons.1 hj with e | hj
      · subst e
        rw [hc] at h
        have : s j = true := by cases e : s j with | true => rfl | false => rw [e] at h; cases h
        exact ih.1.sub j this
      · exact ih.2 j hj hc
    | true =>
      have hc : csAt cs k x = true := by cases e : csAt cs k x with | true => rfl | false => rw [e] at h; cases h
      have hs : s x = false := by cases e : s x with | false => rfl | true => rw [e, hc] at h; cases h
      by_cases h0 : f x = -1
      · rw [loopM_free h h0] at ht; cases ht
      · cases hq : (rec (f x).toNat f (upd s x true)).1 with
        | true => rw [loopM_yes h h0 hq] at ht; cases ht
        | false =>
          have h1 := hsame _ _ _ hq
          have hu1 := unseen_upd s x hx hs
          obtain ⟨h2, h3⟩ := hrec (f x).toNat f (upd s x true) (by omega) hq
          rw [loopM_no h h0 hq, h1] at ht ⊢
          generalize (rec (f x).toNat f (upd s x true)).2.2 = s2 at h2 h3 ht ⊢
          have hsub := (SubS.upd s x).trans h2.sub
          have ih := loopM_fp hrec hsame r f s2 hr (by have := unseen_mono hsub; omega) ht
          refine ⟨⟨hsub.trans ih.1.sub, fun i hi h4 h5 => ?_⟩, fun j hj hc' => ?_⟩
          · cases e2 : s2 i with
            | false => exact ih.1.shut i hi h4 e2
            | true =>
              by_cases e : i = x
              · subst e; exact ⟨h0, fun j hj hc' => ih.1.sub j (h3 j hj hc')⟩
              · have := h2.shut i hi e2 (upd_mark' e h5)
                exact ⟨this.1, fun j hj hc' => ih.1.sub j (this.2 j hj hc')⟩
          · rcases List.mem_cons.1 hj with e | hj
            · subst e
              exact ih.1.sub _ (h2.sub _ (upd_same _ _ _))
            · exact ih.2 j hj hc'
theorem fillM_fp (cs : List (Nat → Bool)) : ∀ n k f s, unseen s < n → (fillM cs n k f s).1 = false → FP cs s f (fillM cs n k f s).2.2 ∧ ∀ j, j < 12 → csAt cs k j = true → (fillM cs n k f s).2.2 j = true
  | 0, _, _, s, hu, _ => absurd hu (by omega)
  | n + 1, k, f, s, hu, h => by
    have := loopM_fp (fillM_fp cs n) (fillM_same cs n) (List.range 12) f s (by simp) hu h
    exact ⟨this.1, fun j hj => this.2 j (by simpa using hj)⟩

/-- a need whose workers are all in b or Z -/
def Cl (cs : List (Nat → Bool)) (b Z : Nat → Bool) (k : Nat) : Prop := ∀ i, i < 12 → csAt cs k i = true → b i = true ∨ Z i = true

/-- a search from a need that is shut in fails -/
theorem loopM_shut {cs : List (Nat → Bool)} {b Z : Nat → Bool} {rec : Nat → (Nat → Int) → (Nat → Bool) → St} {k : Nat} {f : Nat → Int} (hZ : ∀ i, i < 12 → Z i = true → f i ≠ -1 ∧ Cl cs b Z (f i).toNat)
    (hrec : ∀ k s, SubS b s → Cl cs b Z k → (rec k f s).1 = false) (hsame : ∀ k f s, (rec k f s).1 = false → (rec k f s).2.1 = f) (hsub : ∀ k f s, SubS s (rec k f s).2.2) (hk : Cl cs b Z k) :
    ∀ (l : List Nat) (s : Nat → Bool), (∀ x ∈ l, x < 12) → SubS b s → (loopM rec (csAt cs k) k l f s).1 = false
  | [], s, _, _ => rfl
  | x :: r, s, hl, hb => by
    have hr : ∀ y ∈ r, y < 12 := fun y hy => hl y (List.mem_cons_of_mem _ hy)
    have hx : x < 12 := hl x List.mem_cons_self
    cases h : (csAt cs k x && !s x) with
    | false => rw [loopM_skip h]; exact loopM_shut hZ hrec hsame hsub hk r s hr hb
    | true =>
      have hc : csAt cs k x = true := by cases e : csAt cs k x with | true => rfl | false => rw [e] at h; cases h
      have hs : s x = false := by cases e : s x with | false => rfl | true => rw [e, hc] at h; cases h
      have hzx : Z x = true := (hk x hx hc).resolve_left fun e => by rw [hb x e] at hs; cases hs
      obtain ⟨h0, hcl⟩ := hZ x hx hzx
      have hq := hrec (f x).toNat (upd s x true) (hb.trans (SubS.upd s x)) hcl
      rw [loopM_no h h0 hq, hsame _ _ _ hq]
      exact loopM_shut hZ hrec hsame hsub hk r _ hr ((hb.trans (SubS.upd s x)).trans (hsub _ _ _))
theorem fillM_shut {cs : List (Nat → Bool)} {b Z : Nat → Bool} {f : Nat → Int} (hZ : ∀ i, i < 12 → Z i = true → f i ≠ -1 ∧ Cl cs b Z (f i).toNat) : ∀ n k s, SubS b s → Cl cs b Z k → (fillM cs n k f s).1 = false
  | 0, _, _, _, _ => rfl
  | n + 1, _, s, hb, hk => loopM_shut hZ (fillM_shut hZ n) (fillM_same cs n) (fillM_sub cs n) hk _ s (by simp) hb

/-- a search that succeeds leaves the shut workers alone -/
theorem loopM_apart {cs : List (Nat → Bool)} {b Z : Nat → Bool} {rec : Nat → (Nat → Int) → (Nat → Bool) → St} {k : Nat} {f : Nat → Int} (hZ : ∀ i, i < 12 → Z i = true → f i ≠ -1 ∧ Cl cs b Z (f i).toNat)
    (hshut : ∀ k s, SubS b s → Cl cs b Z k → (rec k f s).1 = false) (hrec : ∀ k s, SubS b s → (rec k f s).1 = true → ∀ i, i < 12 → Z i = true → (rec k f s).2.1 i = f i)
    (hsame : ∀ k f s, (rec k f s).1 = false → (rec k f s).2.1 = f) (hsub : ∀ k f s, SubS s (rec k f s).2.2) :
    ∀ (l : List Nat) (s : Nat → Bool), (∀ x ∈ l, x < 12) → SubS b s → (loopM rec (csAt cs k) k l f s).1 = true → ∀ i, i < 12 → Z i = true → (loopM rec (csAt cs k) k l f s).2.1 i = f i
  | [], s, _, _, ht => by cases ht
  | x :: r, s, hl, hb, ht => by
    have hr : ∀ y ∈ r, y < 12 := fun y hy => hl y (List.mem_cons_of_mem _ hy)
    have hx : x < 12 := hl x List.mem_cons_self
    cases h : (csAt cs k x && !s x) with
    | false => rw [loopM_skip h] at ht ⊢; exact loopM_apart hZ hshut hrec hsame hsub r s hr hb ht
    | true =>
      by_cases h0 : f x = -1
      · rw [loopM_free h h0]
        intro i hi hz
        exact upd_ne _ _ _ fun e => (hZ i hi hz).1 (by rw [e]; exact h0)
      · have hb1 := hb.trans (SubS.upd s x)
        cases hq : (rec (f x).toNat f (upd s x true)).1 with
        | true =>
          rw [loopM_yes h h0 hq]
          intro i hi hz
          have hne : i ≠ x := fun e => by
            subst e
            have := hshut (f i).toNat (upd s i true) hb1 (hZ i hi hz).2
            rw [hq] at this; cases this
          show upd _ x _ i = _
          rw [upd_ne _ _ _ hne]
          exact hrec _ _ hb1 hq i hi hz
        | false =>
          rw [loopM_no h h0 hq, hsame _ _ _ hq] at ht ⊢
          exact loopM_apart hZ hshut hrec hsame hsub r _ hr (hb1.trans (hsub _ _ _)) ht
theorem fillM_apart {cs : List (Nat → Bool)} {b Z : Nat → Bool} {f : Nat → Int} (hZ : ∀ i, i < 12 → Z i = true → f i ≠ -1 ∧ Cl cs b Z (f i).toNat) :
    ∀ n k s, SubS b s → (fillM cs n k f s).1 = true → ∀ i, i < 12 → Z i = true → (fillM cs n k f s).2.1 i = f i
  | 0, _, _, _, h => by cases h
  | n + 1, _, s, hb, h => loopM_apart hZ (fillM_shut hZ n) (fillM_apart hZ n) (fillM_same cs n) (fillM_sub cs n) _ s (by simp) hb h

/-- what holds after k needs, with the cover Z -/
structure Kh (cs : List (Nat → Bool)) (b Z : Nat → Bool) (k : Nat) (f : Nat → Int) (c : Nat) : Prop where
  able : ∀ i, i < 12 → f i ≠ -1 → 0 ≤ f i ∧ f i < k ∧ csAt cs (f i).toNat i = true ∧ b i = false
  inj : ∀ i j, i < 12 → j < 12 → f i = f j → f i ≠ -1 → i = j
  inZ : ∀ i, i < 12 → Z i = true → f i ≠ -1
  out : ∀ j : Nat, j < k → uncB cs b Z j = true → ∃ i, i < 12 ∧ f i = j ∧ Z i = false
  many : c = cnt 12 fun i => decide (f i ≠ -1)

theorem Kh.cl {cs : List (Nat → Bool)} {b Z : Nat → Bool} {k : Nat} {f : Nat → Int} {c : Nat} (h : Kh cs b Z k f c) : ∀ i, i < 12 → Z i = true → f i ≠ -1 ∧ Cl cs b Z (f i).toNat := by
  intro i hi hz
  have h0 := h.inZ i hi hz
  refine ⟨h0, fun j hj hc => ?_⟩
  obtain ⟨h1, h2, _, _⟩ := h.able i hi h0
  cases hb : b j with
  | true => exact .inl rfl
  | false =>
    cases hzj : Z j with
    | true => exact .inr rfl
    | false =>
      obtain ⟨i', hi', e, hz'⟩ := h.out (f i).toNat (by omega) ((uncB_iff _ _ _ _).2 ⟨j, hj, hc, hb, hzj⟩)
      have := h.inj i' i hi' hi (by omega) (by omega)
      subst this
      rw [hz] at hz'; cases hz'

theorem kh_step {cs : List (Nat → Bool)} {b Z : Nat → Bool} {k : Nat} {f : Nat → Int} {c : Nat} (h : Kh cs b Z k f c) :
    ∃ Z', Kh cs b Z' (k + 1) (fillM cs 13 k f b).2.1 (c + if (fillM cs 13 k f b).1 then 1 else 0) := by
  have hO : Ok cs b f := ⟨fun i hi _ hne => ⟨(h.able i hi hne).1, (h.able i hi hne).2.2.1⟩, fun i j hi hj _ _ => h.inj i j hi hj⟩
  have hk : Free b k f := fun i hi _ e => by have := (h.able i hi (by omega)).2.1; omega
  cases hq : (fillM cs 13 k f b).1 with
  | true =>
    have hs := fillM_sp cs 13 k f b hO hk hq
    have ha := fillM_apart h.cl 13 k b (SubS.refl b) hq
    generalize (fillM cs 13 k f b).2.1 = f' at hs ha ⊢
    have hb : ∀ i, i < 12 → b i = true → f' i = -1 := fun i hi hb => by
      rw [hs.keep i hb]
      by_cases e : f i = -1
      · exact e
      · have := (h.able i hi e).2.2.2; rw [hb] at this; cases this
    have hnb : ∀ i, i < 12 → f' i ≠ -1 → b i = false := fun i hi hne => by
      cases e : b i with
      | false => rfl
      | true => exact absurd (hb i hi e) hne
    have hinj : ∀ i j, i < 12 → j < 12 → f' i = f' j → f' i ≠ -1 → i = j := fun i j hi hj e hne => hs.inj i j hi hj (hnb i hi hne) (hnb j hj (by rw [← e]; exact hne)) e hne
    obtain ⟨y, hy, hby, hfy, hfy', hrest⟩ := hs.more
    refine ⟨Z, fun i hi hne => ?_, hinj, fun i hi hz => by rw [ha i hi hz]; exact h.inZ i hi hz, fun j hj hun => ?_, ?_⟩
    · obtain ⟨h1, h2⟩ := hs.able i hi (hnb i hi hne) hne
      refine ⟨h1, ?_, h2, hnb i hi hne⟩
      rcases hs.who i hi (hnb i hi hne) hne with e | ⟨j, hj, _, e⟩
      · omega
      · have := (h.able j hj (by rw [e]; exact hne)).2.1; omega
    · have hfin : ∃ i, i < 12 ∧ f' i = j := by
        by_cases e : j = k
        · obtain ⟨i, hi, _, e2⟩ := hs.has; exact ⟨i, hi, by rw [e2, e]⟩
        · obtain ⟨i, hi, e2, hz⟩ := h.out j (by omega) hun
          obtain ⟨i', hi', _, e3⟩ := hs.stay i hi (by have := (h.able i hi (by omega)).2.2.2; exact this) (by omega)
          exact ⟨i', hi', by rw [e3, e2]⟩
      obtain ⟨i, hi, e⟩ := hfin
      refine ⟨i, hi, e, ?_⟩
      cases hz : Z i with
      | false => rfl
      | true =>
        have e1 := ha i hi hz
        have h0 := h.inZ i hi hz
        by_cases ejk : j = k
        · have := (h.able i hi h0).2.1; omega
        · obtain ⟨i', hi', e2, hz'⟩ := h.out j (by omega) hun
          have := h.inj i' i hi' hi (by omega) (by omega)
          subst this
          rw [hz] at hz'; cases hz'
    · rw [h.many]
      have hye : decide (f' y ≠ -1) = true := by simp [hfy']
      have e := cnt_remove (q := fun i => decide (f' i ≠ -1)) hy hye
      rw [if_pos rfl, e]
      congr 1
      refine cnt_congr fun i hi => ?_
      by_cases ei : i = y
      · subst ei; simp [hfy]
      · have := hrest i hi ei
        have h2 : (i == y) = false := by simp [ei]
        simp only [h2, Bool.not_false, Bool.and_true]
        rw [decide_eq_decide]
        exact ⟨fun a b => a (this.1 b), fun a b => a (this.2 b)⟩
  | false =>
    have hf := fillM_same cs 13 k f b hq
    obtain ⟨hp, hp2⟩ := fillM_fp cs 13 k f b (unseen_le b) hq
    rw [hf]
    generalize (fillM cs 13 k f b).2.2 = s' at hp hp2
    refine ⟨fun i => Z i || (s' i && !b i), fun i hi hne => ?_, h.inj, fun i hi hz => ?_, fun j hj hun => ?_, by rw [h.many]; simp⟩
    · obtain ⟨h1, h2, h3⟩ := h.able i hi hne; exact ⟨h1, by omega, h3⟩
    · cases hz1 : Z i with
      | true => exact h.inZ i hi hz1
      | false =>
        simp [hz1] at hz
        exact (hp.shut i hi hz.1 hz.2).1
    · obtain ⟨i, hi, hc, hb, hz⟩ := (uncB_iff _ _ _ _).1 hun
      simp [hb] at hz
      by_cases ejk : j = k
      · subst ejk
        have := hp2 i hi hc
        rw [hz.2] at this; cases this
      · obtain ⟨i', hi', e, hz'⟩ := h.out j (by omega) ((uncB_iff _ _ _ _).2 ⟨i, hi, hc, hb, hz.1⟩)
        refine ⟨i', hi', e, ?_⟩
        have hb' := (h.able i' hi' (by omega)).2.2.2
        cases hs' : s' i' with
        | false => simp [hz']
        | true =>
          have := (hp.shut i' hi' hs' hb').2 i hi (by rw [e]; simpa using hc)
          rw [hz.2] at this; cases this

theorem kh_all (cs : List (Nat → Bool)) (b : Nat → Bool) : ∀ k, ∃ Z, Kh cs b Z k (largM cs b k).1 (largM cs b k).2
  | 0 => ⟨fun _ => false, ⟨fun i _ h => absurd rfl h, fun i _ _ _ _ h => absurd rfl h, (fun i _ h => by cases h), fun j h => absurd h (by omega), rfl⟩⟩
  | k + 1 => by
    obtain ⟨Z, h⟩ := kh_all cs b k
    exact kh_step h

/-- the worker of need j -/
def whoM (f : Nat → Int) (j : Nat) : Int := match (List.range 12).find? fun i => decide (f i = j) with | some i => i | none => -1

theorem whoM_spec (f : Nat → Int) (j : Nat) : (∃ i : Nat, i < 12 ∧ f i = j ∧ whoM f j = i) ∨ (whoM f j = -1 ∧ ∀ i, i < 12 → f i ≠ j) := by
  unfold whoM
  cases h : (List.range 12).find? fun i => decide (f i = j) with
  | some i =>
    have h1 := List.find?_some h
    have h2 := List.mem_of_find?_eq_some h
    exact .inl ⟨i, by simpa using h2, by simpa using h1, rfl⟩
  | none =>
    rw [List.find?_eq_none] at h
    exact .inr ⟨rfl, fun i hi e => h i (by simpa using hi) (by simpa using e)⟩

/-- larg is the size of a matching and of a cover -/
theorem larg_both (cs : List (Nat → Bool)) (b : Nat → Bool) : (∃ m, IsMt cs b m ∧ fillN cs.length m = larg cs b) ∧ ∃ Z : Nat → Bool, (∀ i, Z i = true → i < 12) ∧ cnt 12 Z + cnt cs.length (uncB cs b Z) = larg cs b := by
  obtain ⟨Z0, h⟩ := kh_all cs b cs.length
  have hc : larg cs b = (largM cs b cs.length).2 := rfl
  generalize hf : (largM cs b cs.length).1 = f at h
  have hmany := h.many
  rw [← hc] at hmany
  have hm : IsMt cs b (whoM f) := by
    refine ⟨fun j hj => ?_, fun j k hj hk e hne => ?_⟩
    · rcases whoM_spec f j with ⟨i, hi, e, e2⟩ | ⟨e, _⟩
      · obtain ⟨h1, h2, h3, h4⟩ := h.able i hi (by omega)
        exact .inr ⟨i, hi, e2, by rw [e] at h3; simpa using h3, h4⟩
      · exact .inl e
    · rcases whoM_spec f j with ⟨i, hi, e1, e2⟩ | ⟨e1, _⟩
      · rcases whoM_spec f k with ⟨i', hi', e1', e2'⟩ | ⟨e1', _⟩
        · have : i = i' := by omega
          subst this
          omega
        · rw [e1'] at e; exact absurd e hne
      · exact absurd e1 hne
  have h1 : larg cs b ≤ fillN cs.length (whoM f) := by
    rw [hmany]
    refine cnt_inj cs.length 12 _ _ (fun i => (f i).toNat) ?_ ?_
    · intro i hi hp
      simp at hp
      obtain ⟨a1, a2, _, _⟩ := h.able i hi hp
      refine ⟨by omega, ?_⟩
      have e : ((f i).toNat : Int) = f i := by omega
      rcases whoM_spec f (f i).toNat with ⟨i', _, _, e2⟩ | ⟨_, hno⟩
      · rw [e2]; simp
      · exact absurd e.symm (hno i hi)
    · intro i j hi hj hp hq e
      simp at hp hq
      obtain ⟨a1, _, _, _⟩ := h.able i hi hp
      obtain ⟨a2, _, _, _⟩ := h.able j hj hq
      exact h.inj i j hi hj (by omega) hp
  have h2 : cnt 12 Z0 + cnt cs.length (uncB cs b Z0) ≤ larg cs b := by
    rw [hmany, cnt_split (fun i => decide (f i ≠ -1)) Z0]
    refine Nat.add_le_add (cnt_mono fun i hi hz => by simp [hz, h.inZ i hi hz]) ?_
    refine cnt_inj 12 cs.length _ _ (fun j => (whoM f j).toNat) ?_ ?_
    · intro j hj hp
      obtain ⟨i, hi, e, hz⟩ := h.out j hj hp
      rcases whoM_spec f j with ⟨i', hi', e1, e2⟩ | ⟨_, hno⟩
      · have := h.inj i i' hi hi' (by omega) (by omega)
        subst this
        simp only [e2, Int.toNat_natCast]
        exact ⟨hi, by simp [hz, e]⟩
      · exact absurd e (hno i hi)
    · intro j k hj hk hp hq e
      obtain ⟨i, hi, e1, _⟩ := h.out j hj hp
      obtain ⟨i', hi', e1', _⟩ := h.out k hk hq
      rcases whoM_spec f j with ⟨a, ha, e2, e3⟩ | ⟨_, hno⟩
      · rcases whoM_spec f k with ⟨a', ha', e2', e3'⟩ | ⟨_, hno⟩
        · simp only [e3, e3', Int.toNat_natCast] at e
          subst e; omega
        · exact absurd e1' (hno i' hi')
      · exact absurd e1 (hno i hi)
  have hZe : cnt 12 (fun i => Z0 i && decide (i < 12)) = cnt 12 Z0 := cnt_congr fun i hi => by simp [hi]
  have hUe : cnt cs.length (uncB cs b (fun i => Z0 i && decide (i < 12))) = cnt cs.length (uncB cs b Z0) := cnt_congr fun j _ => by
    rw [Bool.eq_iff_iff, uncB_iff, uncB_iff]
    constructor
    · rintro ⟨i, hi, a, c, d⟩; exact ⟨i, hi, a, c, by simpa [hi] using d⟩
    · rintro ⟨i, hi, a, c, d⟩; exact ⟨i, hi, a, c, by simp [d]⟩
  have h3 := weak hm Z0
  refine ⟨⟨whoM f, hm, by omega⟩, fun i => Z0 i && decide (i < 12), fun i hi => by simp at hi; exact hi.2, by rw [hZe, hUe]; omega⟩

theorem larg_max {cs : List (Nat → Bool)} {b : Nat → Bool} {m : Nat → Int} (h : IsMt cs b m) : fillN cs.length m ≤ larg cs b := by
  obtain ⟨_, Z, _, hz⟩ := larg_both cs b
  have := weak h Z
  omega
end Go.Proofs.Ythfcllefmeoicaa
