/- What follows from Koenig's law: the table's recursion; the match by words is a largest matching; one worker or one need less. Plain Lean. -/
import Derived.Test.YthfcllefmeoicaaKoen
namespace Go.Proofs.Ythfcllefmeoicaa

theorem cnt_cons (p : Nat → Bool) : ∀ n, cnt (n + 1) p = (if p 0 then 1 else 0) + cnt n (fun j => p (j + 1))
  | 0 => by rw [cnt_succ, cnt_zero, cnt_zero]; omega
  | n + 1 => by rw [cnt_succ, cnt_cons p n, cnt_succ]; omega

theorem csAt_zero (c : Nat → Bool) (cs : List (Nat → Bool)) (i : Nat) : csAt (c :: cs) 0 i = c i := rfl
theorem csAt_succ (c : Nat → Bool) (cs : List (Nat → Bool)) (j i : Nat) : csAt (c :: cs) (j + 1) i = csAt cs j i := rfl
theorem csAt_out {cs : List (Nat → Bool)} {j : Nat} (h : cs.length ≤ j) (i : Nat) : csAt cs j i = false := by
  unfold csAt; rw [List.getElem?_eq_none h]
theorem csAt_drop (cs : List (Nat → Bool)) (k j i : Nat) : csAt (cs.drop k) j i = csAt cs (k + j) i := by
  unfold csAt; rw [List.getElem?_drop]

/-- a matching with one more need ahead -/
def consM (x : Int) (m : Nat → Int) : Nat → Int := fun j => match j with | 0 => x | j + 1 => m j
theorem fillN_cons (n : Nat) (x : Int) (m : Nat → Int) : fillN (n + 1) (consM x m) = (if 0 ≤ x then 1 else 0) + fillN n m := by
  unfold fillN
  rw [cnt_cons]
  congr 1
  show (if decide (0 ≤ x) = true then 1 else 0) = _
  simp

theorem isMt_none {c : Nat → Bool} {cs : List (Nat → Bool)} {b : Nat → Bool} {m : Nat → Int} (h : IsMt cs b m) : IsMt (c :: cs) b (consM (-1) m) := by
  refine ⟨fun j hj => ?_, fun j k hj hk e hne => ?_⟩
  · rcases j with _ | j
    · exact .inl rfl
    · exact h.ok j (by simpa using hj)
  · rcases j with _ | j
    · exact absurd rfl hne
    · rcases k with _ | k
      · exact absurd e hne
      · have := h.inj j k (by simpa using hj) (by simpa using hk) e hne
        omega
theorem isMt_some {c : Nat → Bool} {cs : List (Nat → Bool)} {b : Nat → Bool} {m : Nat → Int} {i : Nat} (hi : i < 12) (hc : c i = true) (hb : b i = false) (h : IsMt cs (upd b i true) m) : IsMt (c :: cs) b (consM i m) := by
  have hno : ∀ j, j < cs.length → m j ≠ i := fun j hj e => by
    rcases h.ok j hj with e2 | ⟨i', _, e2, _, e3⟩
    · omega
    · have : i' = i := by omega
      subst this; rw [upd_same] at e3; cases e3
  refine ⟨fun j hj => ?_, fun j k hj hk e hne => ?_⟩
  · rcases j with _ | j
    · exact .inr ⟨i, hi, rfl, hc, hb⟩
    · rcases h.ok j (by simpa using hj) with e | ⟨i', h1, h2, h3, h4⟩
      · exact .inl e
      · exact .inr ⟨i', h1, h2, h3, (upd_mark h4).2⟩
  · rcases j with _ | j
    · rcases k with _ | k
      · rfl
      · exact absurd e.symm (hno k (by simpa using hk))
    · rcases k with _ | k
      · exact absurd e (hno j (by simpa using hj))
      · have := h.inj j k (by simpa using hj) (by simpa using hk) e hne
        omega

theorem larg_skip (c : Nat → Bool) (cs : List (Nat → Bool)) (b : Nat → Bool) : larg cs b ≤ larg (c :: cs) b := by
  obtain ⟨⟨m, hm, e⟩, _⟩ := larg_both cs b
  have h := larg_max (isMt_none (c := c) hm)
  rw [List.length_cons, fillN_cons, e] at h
  simpa using h
theorem larg_take {c : Nat → Bool} (cs : List (Nat → Bool)) {b : Nat → Bool} {i : Nat} (hi : i < 12) (hc : c i = true) (hb : b i = false) : 1 + larg cs (upd b i true) ≤ larg (c :: cs) b := by
  obtain ⟨⟨m, hm, e⟩, _⟩ := larg_both cs (upd b i true)
  have h := larg_max (isMt_some hi hc hb hm)
  rw [List.length_cons, fillN_cons, e, if_pos (by omega)] at h
  exact h
theorem consM_eta (m : Nat → Int) : consM (m 0) (fun j => m (j + 1)) = m := by
  funext j; rcases j with _ | j <;> rfl
theorem larg_cases (c : Nat → Bool) (cs : List (Nat → Bool)) (b : Nat → Bool) : larg (c :: cs) b = larg cs b ∨ ∃ i, i < 12 ∧ c i = true ∧ b i = false ∧ larg (c :: cs) b = 1 + larg cs (upd b i true) := by
  obtain ⟨⟨m, hm, e⟩, _⟩ := larg_both (c :: cs) b
  have hs := larg_skip c cs b
  rw [← consM_eta m, List.length_cons, fillN_cons] at e
  rcases hm.ok 0 (by simp) with e0 | ⟨i, hi, e0, h1, h2⟩
  · left
    have hm' : IsMt cs b (fun j => m (j + 1)) := ⟨fun j hj => hm.ok (j + 1) (by simpa using hj), fun j k hj hk e hne => by
      have := hm.inj (j + 1) (k + 1) (by simpa using hj) (by simpa using hk) e hne; omega⟩
    have := larg_max hm'
    rw [e0] at e
    simp at e
    omega
  · right
    refine ⟨i, hi, h1, h2, ?_⟩
    have hm' : IsMt cs (upd b i true) (fun j => m (j + 1)) := ⟨fun j hj => by
        rcases hm.ok (j + 1) (by simpa using hj) with e1 | ⟨i', a1, a2, a3, a4⟩
        · exact .inl e1
        · refine .inr ⟨i', a1, a2, a3, upd_mark' (fun e3 => ?_) a4⟩
          subst e3
          have := hm.inj 0 (j + 1) (by simp) (by simpa using hj) (by rw [e0, a2]) (by rw [e0]; omega)
          omega, fun j k hj hk e hne => by
      have := hm.inj (j + 1) (k + 1) (by simpa using hj) (by simpa using hk) e hne; omega⟩
    have h3 := larg_max hm'
    have h4 : 1 + larg cs (upd b i true) ≤ larg (c :: cs) b := larg_take cs hi h1 h2
    rw [e0, if_pos (by omega)] at e
    omega

/-- at need k -/
theorem drop_cons (cs : List (Nat → Bool)) (k : Nat) (h : k < cs.length) : cs.drop k = cs[k] :: cs.drop (k + 1) := List.drop_eq_getElem_cons h
theorem csAt_get {cs : List (Nat → Bool)} {k : Nat} (h : k < cs.length) (i : Nat) : csAt cs k i = cs[k] i := by simp [csAt, h]

/-- what can be filled yet is what the search finds -/
theorem matM_inv (cs : List (Nat → Bool)) : ∀ k, k ≤ cs.length → (matM cs k).2.1 = (larg (cs.drop k) (matM cs k).1 : Int)
  | 0, _ => by simp [matM]
  | k + 1, h => by
    have ih := matM_inv cs k (by omega)
    simp only [matM]
    cases hp : pickM cs k (matM cs k).1 (matM cs k).2.1 with
    | some j =>
      have h1 := List.find?_some hp
      simp [picks] at h1
      simp only []
      omega
    | none =>
      simp only []
      unfold pickM at hp
      rw [List.find?_eq_none] at hp
      rw [ih]
      rw [drop_cons cs k (by omega)] at ih ⊢
      rcases larg_cases cs[k] (cs.drop (k + 1)) (matM cs k).1 with e | ⟨i, hi, h1, h2, h3⟩
      · rw [e]
      · exact absurd (by
          unfold picks
          rw [csAt_get (by omega), h1, h2, ih, h3]; simp) (hp i (by simpa using hi))

/-- the match, need by need -/
theorem matM_at (cs : List (Nat → Bool)) : ∀ k, k ≤ cs.length →
    (∀ j (h : j < (matM cs k).2.2.length), (matM cs k).2.2[j] = -1 ∨ ∃ i : Nat, i < 12 ∧ (matM cs k).2.2[j] = i ∧ csAt cs j i = true ∧ (matM cs k).1 i = true ∧ ¬ (matM cs k).2.2[j] ∈ (matM cs k).2.2.take j) ∧
    (∀ i : Nat, (matM cs k).1 i = true → (i : Int) ∈ (matM cs k).2.2) ∧
    (cnt k (fun j => decide (0 ≤ (matM cs k).2.2.getD j (-1))) : Int) + (matM cs k).2.1 = larg cs (fun _ => false)
  | 0, _ => ⟨fun j h => absurd h (by simp [matM]), fun i h => by simp [matM] at h, by simp [matM, cnt_zero]⟩
  | k + 1, h => by
    obtain ⟨ih1, ih2, ih3⟩ := matM_at cs k (by omega)
    have hl := matM_len cs k
    have hold : ∀ x, cnt k (fun j => decide (0 ≤ ((matM cs k).2.2 ++ [x]).getD j (-1))) = cnt k (fun j => decide (0 ≤ (matM cs k).2.2.getD j (-1))) := fun x => cnt_congr fun j hj => by
      rw [List.getD_eq_getElem?_getD, List.getD_eq_getElem?_getD, List.getElem?_append_left (by omega)]
    have hnew : ∀ x, ((matM cs k).2.2 ++ [x]).getD k (-1) = x := fun x => by
      rw [List.getD_eq_getElem?_getD, List.getElem?_append_right (by omega)]; simp [hl]
    have hmem : ∀ x ∈ (matM cs k).2.2, x = -1 ∨ ∃ i : Nat, x = i ∧ (matM cs k).1 i = true := by
      intro x hx
      obtain ⟨j, hj, e⟩ := List.getElem_of_mem hx
      rcases ih1 j hj with e1 | ⟨i, _, e1, _, e2, _⟩
      · exact .inl (by rw [← e, e1])
      · exact .inr ⟨i, by rw [← e, e1], e2⟩
    cases hp : pickM cs k (matM cs k).1 (matM cs k).2.1 with
    | some x =>
      have h1 := List.find?_some hp
      have h2 := List.mem_of_find?_eq_some hp
      simp [picks] at h1
      have hx : x < 12 := by simpa using h2
      have e : matM cs (k + 1) = (upd (matM cs k).1 x true, (matM cs k).2.1 - 1, (matM cs k).2.2 ++ [(x : Int)]) := by simp only [matM, hp]
      rw [e]
      refine ⟨fun j hj => ?_, fun i hi => ?_, ?_⟩
      · simp only [List.length_append, List.length_singleton] at hj
        by_cases hjk : j < k
        · simp only [List.getElem_append_left (show j < (matM cs k).2.2.length by omega)]
          rcases ih1 j (by omega) with e1 | ⟨i, a1, a2, a3, a4, a5⟩
          · exact .inl e1
          · refine .inr ⟨i, a1, a2, a3, by simp [upd, a4], ?_⟩
            rw [List.take_append_of_le_length (by omega)]; exact a5
        · obtain rfl : j = k := by omega
          have ee : ((matM cs j).2.2 ++ [(x : Int)])[j]'(by simp; omega) = x := by
            rw [List.getElem_append_right (by omega)]; simp
          refine .inr ⟨x, hx, ee, h1.1.1, upd_same _ _ _, ?_⟩
          rw [ee, List.take_append_of_le_length (by omega), List.take_of_length_le (by omega)]
          intro hin
          rcases hmem _ hin with e3 | ⟨i, e3, e4⟩
          · omega
          · have : i = x := by omega
            subst this; rw [h1.1.2] at e4; cases e4
      · simp only [] at hi ⊢
        rw [List.mem_append]
        by_cases e1 : i = x
        · subst e1; simp
        · rw [upd_ne _ _ _ e1] at hi; exact .inl (ih2 i hi)
      · simp only []
        rw [cnt_succ, hold, hnew]
        have : decide ((0 : Int) ≤ (x : Int)) = true := by simp
        rw [this, if_pos rfl]
        omega
    | none =>
      have e : matM cs (k + 1) = ((matM cs k).1, (matM cs k).2.1, (matM cs k).2.2 ++ [-1]) := by simp only [matM, hp]
      rw [e]
      refine ⟨fun j hj => ?_, fun i hi => List.mem_append.2 (.inl (ih2 i hi)), ?_⟩
      · simp only [List.length_append, List.length_singleton] at hj
        by_cases hjk : j < k
        · simp only [List.getElem_append_left (show j < (matM cs k).2.2.length by omega)]
          rcases ih1 j (by omega) with e1 | ⟨i, a1, a2, a3, a4, a5⟩
          · exact .inl e1
          · refine .inr ⟨i, a1, a2, a3, a4, ?_⟩
            rw [List.take_append_of_le_length (by omega)]; exact a5
        · obtain rfl : j = k := by omega
          exact .inl (by rw [List.getElem_append_right (by omega)]; simp)
      · simp only []
        rw [cnt_succ, hold, hnew]
        have : decide ((0 : Int) ≤ -1) = false := by decide
        rw [this]
        simp only [Bool.false_eq_true, if_false]
        omega

/-- the match as a list -/
def matL (cs : List (Nat → Bool)) : List Int := (matM cs cs.length).2.2
theorem matL_len (cs : List (Nat → Bool)) : (matL cs).length = cs.length := matM_len cs _
/-- how many numbers of a list are not below 0 -/
def posN (l : List Int) : Nat := l.countP fun x => decide (0 ≤ x)
theorem posN_snoc (l : List Int) (x : Int) : posN (l ++ [x]) = posN l + if 0 ≤ x then 1 else 0 := by
  unfold posN; rw [List.countP_append, List.countP_cons, List.countP_nil]; simp
theorem cnt_getD (p : Int → Bool) : ∀ (l : List Int) (d : Int), cnt l.length (fun j => p (l.getD j d)) = l.countP p
  | [], _ => rfl
  | x :: l, d => by
    rw [List.length_cons, cnt_cons, List.countP_cons]
    have := cnt_getD p l d
    simp only [List.getD_cons_succ, List.getD_cons_zero]
    omega
theorem matL_fills (cs : List (Nat → Bool)) : posN (matL cs) = larg cs (fun _ => false) := by
  have h := (matM_at cs cs.length (Nat.le_refl _)).2.2
  have h2 := matM_inv cs cs.length (Nat.le_refl _)
  rw [List.drop_length] at h2
  have h3 : larg [] (matM cs cs.length).1 = 0 := rfl
  rw [h2, h3] at h
  have h4 := cnt_getD (fun x => decide (0 ≤ x)) (matL cs) (-1)
  rw [matL_len] at h4
  unfold posN
  rw [← h4]
  unfold matL
  omega
theorem matL_at (cs : List (Nat → Bool)) (j : Nat) (h : j < (matL cs).length) : (matL cs)[j] = -1 ∨ ∃ i : Nat, i < 12 ∧ (matL cs)[j] = i ∧ csAt cs j i = true ∧ ¬ (matL cs)[j] ∈ (matL cs).take j := by
  rcases (matM_at cs cs.length (Nat.le_refl _)).1 j h with e | ⟨i, a1, a2, a3, _, a5⟩
  · exact .inl e
  · exact .inr ⟨i, a1, a2, a3, a5⟩
theorem getD_at (l : List Int) (j : Nat) (h : j < l.length) : l.getD j (-1) = l[j] := by
  rw [List.getD_eq_getElem?_getD, List.getElem?_eq_getElem h]; rfl
theorem matL_isMt (cs : List (Nat → Bool)) : IsMt cs (fun _ => false) (fun j => (matL cs).getD j (-1)) := by
  have hl := matL_len cs
  have key : ∀ j k, j < k → k < cs.length → (matL cs).getD j (-1) = (matL cs).getD k (-1) → (matL cs).getD j (-1) ≠ -1 → False := by
    intro j k hjk hk e hne
    rw [getD_at _ _ (by omega)] at e hne
    rw [getD_at _ _ (by omega)] at e
    rcases matL_at cs k (by omega) with e1 | ⟨i, _, _, _, h5⟩
    · rw [e1] at e; exact hne e
    · apply h5
      rw [← e, List.mem_take_iff_getElem]
      exact ⟨j, by omega, rfl⟩
  refine ⟨fun j hj => ?_, fun j k hj hk e hne => ?_⟩
  · simp only []
    rw [getD_at _ _ (by omega)]
    rcases matL_at cs j (by omega) with e1 | ⟨i, h1, h2, h3, _⟩
    · exact .inl e1
    · exact .inr ⟨i, h1, h2, h3, by trivial⟩
  · rcases Nat.lt_trichotomy j k with h | h | h
    · exact (key j k h hk e hne).elim
    · exact h
    · exact (key k j h hj e.symm (by rw [← e]; exact hne)).elim
theorem fillN_matL (cs : List (Nat → Bool)) : fillN cs.length (fun j => (matL cs).getD j (-1)) = larg cs (fun _ => false) := by
  rw [← matL_fills]
  have h4 := cnt_getD (fun x => decide (0 ≤ x)) (matL cs) (-1)
  rw [matL_len] at h4
  exact h4

/-- nobody who is not matched can fill a need that has no worker -/
theorem matL_spare (cs : List (Nat → Bool)) (j : Nat) (hj : j < (matL cs).length) (he : (matL cs)[j] = -1) (i : Nat) (hi : i < 12) (hno : ¬ (i : Int) ∈ matL cs) : csAt cs j i = false := by
  cases hc : csAt cs j i with
  | false => rfl
  | true =>
    exfalso
    have hm := matL_isMt cs
    have hl := matL_len cs
    have hg : ∀ k, k < cs.length → (matL cs).getD k (-1) ≠ i := fun k hk e => by
      rw [getD_at _ _ (by omega)] at e
      exact hno (by rw [← e]; exact List.getElem_mem _)
    have h2 : IsMt cs (fun _ => false) (upd (fun j => (matL cs).getD j (-1)) j i) := by
      refine ⟨fun k hk => ?_, fun k l hk hl' e hne => ?_⟩
      · by_cases e : k = j
        · subst e; exact .inr ⟨i, hi, upd_same _ _ _, hc, rfl⟩
        · rw [upd_ne _ _ _ e]; exact hm.ok k hk
      · by_cases e1 : k = j
        · by_cases e2 : l = j
          · omega
          · rw [e1, upd_same, upd_ne _ _ _ e2] at e
            exact absurd e.symm (hg l hl')
        · by_cases e2 : l = j
          · rw [e2, upd_same, upd_ne _ _ _ e1] at e
            exact absurd e (hg k hk)
          · rw [upd_ne _ _ _ e1] at e hne
            rw [upd_ne _ _ _ e2] at e
            exact hm.inj k l hk hl' e hne
    have h3 := larg_max h2
    have h4 : cnt cs.length (fun k => decide (0 ≤ (matL cs).getD k (-1))) = larg cs (fun _ => false) := fillN_matL cs
    unfold fillN at h3
    have h5 := cnt_remove (q := fun k => decide (0 ≤ upd (fun j => (matL cs).getD j (-1)) j i k)) (x := j) (n := cs.length) (by omega) (by rw [upd_same]; simp)
    have h6 : cnt cs.length (fun k => decide (0 ≤ (matL cs).getD k (-1))) ≤ cnt cs.length (fun k => decide (0 ≤ upd (fun j => (matL cs).getD j (-1)) j i k) && !(k == j)) := cnt_mono fun k hk hp => by
      have hne : k ≠ j := fun e => by
        subst e
        rw [getD_at _ _ hj, he] at hp; simp at hp
      rw [upd_ne _ _ _ hne, hp]; simp [hne]
    omega

/-- workers of another numbering: at least as many needs are filled -/
theorem larg_map {cs cs' : List (Nat → Bool)} (hl : cs'.length = cs.length) (φ : Nat → Nat) (h1 : ∀ j i, i < 12 → csAt cs' j i = true → φ i < 12 ∧ csAt cs j (φ i) = true)
    (h2 : ∀ j k i i', i < 12 → i' < 12 → csAt cs' j i = true → csAt cs' k i' = true → φ i = φ i' → i = i') : larg cs' (fun _ => false) ≤ larg cs (fun _ => false) := by
  obtain ⟨⟨m, hm, e⟩, _⟩ := larg_both cs' (fun _ => false)
  have hm' : IsMt cs (fun _ => false) (fun j => if m j = -1 then -1 else (φ (m j).toNat : Int)) := by
    refine ⟨fun j hj => ?_, fun j k hj hk e hne => ?_⟩
    · rcases hm.ok j (by omega) with e1 | ⟨i, a1, a2, a3, _⟩
      · exact .inl (by simp [e1])
      · obtain ⟨b1, b2⟩ := h1 j i a1 a3
        refine .inr ⟨φ i, b1, ?_, b2, rfl⟩
        rw [if_neg (by omega), a2]; simp
    · rcases hm.ok j (by omega) with e1 | ⟨i, a1, a2, a3, _⟩
      · simp [e1] at hne
      · rcases hm.ok k (by omega) with e1 | ⟨i', b1, b2, b3, _⟩
        · simp only [e1, a2] at e; rw [if_neg (by omega)] at e; simp at e
        · simp only [a2, b2] at e
          rw [if_neg (by omega), if_neg (by omega)] at e
          simp at e
          have := h2 j k i i' a1 b1 a3 b3 (by omega)
          exact hm.inj j k (by omega) (by omega) (by rw [a2, b2, this]) (by omega)
  have h := larg_max hm'
  have : fillN cs'.length m ≤ fillN cs.length (fun j => if m j = -1 then -1 else (φ (m j).toNat : Int)) := by
    rw [hl]
    unfold fillN
    refine cnt_mono fun j hj hp => ?_
    simp at hp ⊢
    rw [if_neg (by omega)]; omega
  omega
/-- one worker less: at most one need less is filled -/
theorem larg_map1 {cs cs' : List (Nat → Bool)} (hl : cs'.length = cs.length) (x : Nat) (φ : Nat → Nat) (h1 : ∀ j i, i < 12 → i ≠ x → csAt cs j i = true → φ i < 12 ∧ csAt cs' j (φ i) = true)
    (h2 : ∀ j k i i', i < 12 → i' < 12 → i ≠ x → i' ≠ x → csAt cs j i = true → csAt cs k i' = true → φ i = φ i' → i = i') : larg cs (fun _ => false) ≤ larg cs' (fun _ => false) + 1 := by
  obtain ⟨⟨m, hm, e⟩, _⟩ := larg_both cs (fun _ => false)
  have hm' : IsMt cs' (fun _ => false) (fun j => if m j = -1 ∨ m j = x then -1 else (φ (m j).toNat : Int)) := by
    refine ⟨fun j hj => ?_, fun j k hj hk e hne => ?_⟩
    · rcases hm.ok j (by omega) with e1 | ⟨i, a1, a2, a3, _⟩
      · exact .inl (by simp [e1])
      · by_cases ex : i = x
        · exact .inl (by simp [a2, ex])
        · obtain ⟨b1, b2⟩ := h1 j i a1 ex a3
          refine .inr ⟨φ i, b1, ?_, b2, rfl⟩
          rw [if_neg (by omega), a2]; simp
    · by_cases ej : m j = -1 ∨ m j = x
      · simp only [if_pos ej] at hne; exact absurd rfl hne
      · by_cases ek : m k = -1 ∨ m k = x
        · simp only [if_pos ek] at e; rw [e] at hne; exact absurd rfl hne
        · rcases hm.ok j (by omega) with e1 | ⟨i, a1, a2, a3, _⟩
          · exact absurd (.inl e1) ej
          · rcases hm.ok k (by omega) with e1 | ⟨i', b1, b2, b3, _⟩
            · exact absurd (.inl e1) ek
            · simp only [if_neg ej, if_neg ek] at e
              rw [a2, b2] at e
              simp at e
              have := h2 j k i i' a1 b1 (by omega) (by omega) a3 b3 (by omega)
              exact hm.inj j k (by omega) (by omega) (by rw [a2, b2, this]) (by omega)
  have h := larg_max hm'
  have h3 : fillN cs.length m ≤ fillN cs'.length (fun j => if m j = -1 ∨ m j = x then -1 else (φ (m j).toNat : Int)) + 1 := by
    rw [hl]
    unfold fillN
    by_cases hx : ∃ j, j < cs.length ∧ m j = x
    · obtain ⟨j0, hj0, e0⟩ := hx
      rw [cnt_remove (q := fun j => decide (0 ≤ m j)) hj0 (by simp [e0])]
      refine Nat.add_le_add_right (cnt_mono fun j hj hp => ?_) 1
      simp at hp ⊢
      rw [if_neg]
      · omega
      · intro hh
        rcases hh with hh | hh
        · omega
        · exact hp.2 (hm.inj j j0 hj hj0 (by rw [hh, e0]) (by omega))
    · refine Nat.le_succ_of_le (cnt_mono fun j hj hp => ?_)
      simp at hp ⊢
      rw [if_neg]
      · omega
      · intro hh
        rcases hh with hh | hh
        · omega
        · exact hx ⟨j, hj, hh⟩
  omega

/-- one need less -/
theorem csAt_erase (cs : List (Nat → Bool)) (k j i : Nat) : csAt (cs.eraseIdx k) j i = csAt cs (if j < k then j else j + 1) i := by
  unfold csAt
  rw [List.getElem?_eraseIdx]
  by_cases h : j < k
  · rw [if_pos h, if_pos h]
  · rw [if_neg h, if_neg h]
theorem larg_less (cs : List (Nat → Bool)) (k : Nat) (hk : k < cs.length) : larg (cs.eraseIdx k) (fun _ => false) ≤ larg cs (fun _ => false) := by
  obtain ⟨⟨m, hm, e⟩, _⟩ := larg_both (cs.eraseIdx k) (fun _ => false)
  have hl : (cs.eraseIdx k).length = cs.length - 1 := List.length_eraseIdx_of_lt hk
  have hm' : IsMt cs (fun _ => false) (fun j => if j = k then -1 else m (if j < k then j else j - 1)) := by
    refine ⟨fun j hj => ?_, fun j l hj hl' e hne => ?_⟩
    · by_cases ej : j = k
      · exact .inl (by simp [ej])
      · rcases hm.ok (if j < k then j else j - 1) (by split <;> omega) with e1 | ⟨i, a1, a2, a3, a4⟩
        · exact .inl (by rw [if_neg ej]; exact e1)
        · refine .inr ⟨i, a1, by rw [if_neg ej]; exact a2, ?_, a4⟩
          rw [csAt_erase] at a3
          by_cases hjk : j < k
          · simp only [if_pos hjk] at a3; exact a3
          · simp only [if_neg hjk] at a3; rw [if_neg (by omega), show j - 1 + 1 = j by omega] at a3; exact a3
    · by_cases ej : j = k
      · simp [ej] at hne
      · by_cases el : l = k
        · simp only [if_pos el] at e; exact absurd e hne
        · simp only [if_neg ej, if_neg el] at e hne
          have := hm.inj _ _ (by split <;> omega) (by split <;> omega) e hne
          by_cases h1 : j < k <;> by_cases h2 : l < k <;> simp [h1, h2] at this <;> omega
  have h := larg_max hm'
  have h3 : fillN (cs.eraseIdx k).length m ≤ fillN cs.length (fun j => if j = k then -1 else m (if j < k then j else j - 1)) := by
    unfold fillN
    refine cnt_inj _ _ _ _ (fun j => if j < k then j else j + 1) (fun j hj hp => ?_) (fun i j hi hj _ _ e => ?_)
    · simp only []
      refine ⟨by split <;> omega, ?_⟩
      rw [decide_eq_true_eq] at hp ⊢
      by_cases h1 : j < k
      · rw [if_pos h1, if_neg (by omega), if_pos h1]; exact hp
      · rw [if_neg h1, if_neg (by omega), if_neg (by omega), show j + 1 - 1 = j by omega]; exact hp
    · by_cases h1 : i < k <;> by_cases h2 : j < k <;> simp [h1, h2] at e <;> omega
  omega
theorem larg_less1 (cs : List (Nat → Bool)) (k : Nat) (hk : k < cs.length) : larg cs (fun _ => false) ≤ larg (cs.eraseIdx k) (fun _ => false) + 1 := by
  obtain ⟨⟨m, hm, e⟩, _⟩ := larg_both cs (fun _ => false)
  have hl : (cs.eraseIdx k).length = cs.length - 1 := List.length_eraseIdx_of_lt hk
  have hm' : IsMt (cs.eraseIdx k) (fun _ => false) (fun j => m (if j < k then j else j + 1)) := by
    refine ⟨fun j hj => ?_, fun j l hj hl' e hne => ?_⟩
    · rcases hm.ok (if j < k then j else j + 1) (by split <;> omega) with e1 | ⟨i, a1, a2, a3, a4⟩
      · exact .inl e1
      · exact .inr ⟨i, a1, a2, by rw [csAt_erase]; exact a3, a4⟩
    · have := hm.inj _ _ (by split <;> omega) (by split <;> omega) e hne
      by_cases h1 : j < k <;> by_cases h2 : l < k <;> simp [h1, h2] at this <;> omega
  have h := larg_max hm'
  have h3 : fillN cs.length m ≤ fillN (cs.eraseIdx k).length (fun j => m (if j < k then j else j + 1)) + 1 := by
    show cnt cs.length (fun j => decide (0 ≤ m j)) ≤ cnt (cs.eraseIdx k).length (fun j => decide (0 ≤ m (if j < k then j else j + 1))) + 1
    have key : cnt cs.length (fun j => decide (0 ≤ m j) && !(j == k)) ≤ cnt (cs.eraseIdx k).length (fun j => decide (0 ≤ m (if j < k then j else j + 1))) := by
      refine cnt_inj _ _ _ _ (fun j => if j < k then j else j - 1) (fun j hj hp => ?_) (fun i j hi hj hp hq e => ?_)
      · simp at hp
        refine ⟨by split <;> omega, ?_⟩
        by_cases h1 : j < k
        · rw [if_pos h1, if_pos h1]; simpa using hp.1
        · rw [if_neg h1, if_neg (by omega), show j - 1 + 1 = j by omega]; simpa using hp.1
      · simp at hp hq
        by_cases h1 : i < k <;> by_cases h2 : j < k <;> simp [h1, h2] at e <;> omega
    cases hp : decide (0 ≤ m k) with
    | true => rw [cnt_remove (q := fun j => decide (0 ≤ m j)) hk hp]; omega
    | false =>
      have : cnt cs.length (fun j => decide (0 ≤ m j)) ≤ cnt cs.length (fun j => decide (0 ≤ m j) && !(j == k)) := cnt_mono fun j hj hq => by
        have : j ≠ k := fun e => by subst e; rw [hp] at hq; cases hq
        rw [hq]; simp [this]
      omega
  omega
end Go.Proofs.Ythfcllefmeoicaa
