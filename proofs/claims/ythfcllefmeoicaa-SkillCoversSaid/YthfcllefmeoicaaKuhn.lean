/- The search for a worker (fill), in plain Lean: what it computes, and that what it marks stays marked. -/
namespace Go.Proofs.Ythfcllefmeoicaa

def upd {α : Type} (c : Nat → α) (k : Nat) (b : α) : Nat → α := fun i => if i = k then b else c i
theorem upd_same {α : Type} (c : Nat → α) (k : Nat) (b : α) : upd c k b k = b := by simp [upd]
theorem upd_ne {α : Type} (c : Nat → α) (k : Nat) (b : α) {i : Nat} (h : i ≠ k) : upd c k b i = c i := by simp [upd, h]

/-- worker i is in set k -/
def csAt (cs : List (Nat → Bool)) (k i : Nat) : Bool := match cs[k]? with | some c => c i | none => false

abbrev St := Bool × (Nat → Int) × (Nat → Bool)

/-- the loop of fill over workers; rec: the call of itself -/
def loopM (rec : Nat → (Nat → Int) → (Nat → Bool) → St) (can : Nat → Bool) (k : Nat) : List Nat → (Nat → Int) → (Nat → Bool) → St
  | [], f, s => (false, f, s)
  | x :: r, f, s =>
    if can x && !s x then
      if f x = -1 then (true, upd f x k, upd s x true)
      else
        match rec (f x).toNat f (upd s x true) with
        | (true, f2, s2) => (true, upd f2 x k, s2)
        | (false, f2, s2) => loopM rec can k r f2 s2
    else loopM rec can k r f s

theorem loopM_skip {rec : Nat → (Nat → Int) → (Nat → Bool) → St} {can : Nat → Bool} {k x : Nat} {r : List Nat} {f : Nat → Int} {s : Nat → Bool} (h : (can x && !s x) = false) :
    loopM rec can k (x :: r) f s = loopM rec can k r f s := by rw [loopM, h]; rfl
theorem loopM_free {rec : Nat → (Nat → Int) → (Nat → Bool) → St} {can : Nat → Bool} {k x : Nat} {r : List Nat} {f : Nat → Int} {s : Nat → Bool} (h : (can x && !s x) = true) (h0 : f x = -1) :
    loopM rec can k (x :: r) f s = (true, upd f x k, upd s x true) := by rw [loopM, h, if_pos rfl, if_pos h0]
theorem loopM_yes {rec : Nat → (Nat → Int) → (Nat → Bool) → St} {can : Nat → Bool} {k x : Nat} {r : List Nat} {f : Nat → Int} {s : Nat → Bool} (h : (can x && !s x) = true) (h0 : ¬ f x = -1)
    (h1 : (rec (f x).toNat f (upd s x true)).1 = true) :
    loopM rec can k (x :: r) f s = (true, upd (rec (f x).toNat f (upd s x true)).2.1 x k, (rec (f x).toNat f (upd s x true)).2.2) := by
  rw [loopM, h, if_pos rfl, if_neg h0]
  rcases hq : rec (f x).toNat f (upd s x true) with ⟨b, f2, s2⟩
  rw [hq] at h1
  cases h1
  rfl
theorem loopM_no {rec : Nat → (Nat → Int) → (Nat → Bool) → St} {can : Nat → Bool} {k x : Nat} {r : List Nat} {f : Nat → Int} {s : Nat → Bool} (h : (can x && !s x) = true) (h0 : ¬ f x = -1)
    (h1 : (rec (f x).toNat f (upd s x true)).1 = false) :
    loopM rec can k (x :: r) f s = loopM rec can k r (rec (f x).toNat f (upd s x true)).2.1 (rec (f x).toNat f (upd s x true)).2.2 := by
  rw [loopM, h, if_pos rfl, if_neg h0]
  rcases hq : rec (f x).toNat f (upd s x true) with ⟨b, f2, s2⟩
  rw [hq] at h1
  cases h1
  rfl

/-- fill, with a bound on the calls of itself -/
def fillM (cs : List (Nat → Bool)) : Nat → Nat → (Nat → Int) → (Nat → Bool) → St
  | 0, _, f, s => (false, f, s)
  | n + 1, k, f, s => loopM (fillM cs n) (csAt cs k) k (List.range 12) f s

/-- how many workers are not marked -/
def unseen (s : Nat → Bool) : Nat := ((List.range 12).filter fun i => !s i).length

/-- what is marked in s is marked in t -/
def SubS (s t : Nat → Bool) : Prop := ∀ i, s i = true → t i = true

theorem SubS.refl (s : Nat → Bool) : SubS s s := fun _ h => h
theorem SubS.trans {s t u : Nat → Bool} (h : SubS s t) (g : SubS t u) : SubS s u := fun i hi => g i (h i hi)
theorem SubS.upd (s : Nat → Bool) (x : Nat) : SubS s (upd s x true) := fun i hi => by unfold Ythfcllefmeoicaa.upd; split <;> simp [hi]

theorem unseen_mono {s t : Nat → Bool} (h : SubS s t) : unseen t ≤ unseen s := by
  unfold unseen
  rw [← List.countP_eq_length_filter, ← List.countP_eq_length_filter]
  apply List.countP_mono_left
  intro i _ hi
  cases hs : s i with
  | false => rfl
  | true => rw [h i hs] at hi; exact hi

theorem filter_upd_len (s : Nat → Bool) (x : Nat) (hs : s x = false) : ∀ l : List Nat, l.Nodup → x ∈ l → (l.filter fun i => !(upd s x true) i).length + 1 = (l.filter fun i => !s i).length := by
  intro l
  induction l with
  | nil => intro _ h; cases h
  | cons a r ih =>
    intro hn hx
    rw [List.nodup_cons] at hn
    rcases List.mem_cons.1 hx with rfl | hx
    · have : (r.filter fun i => !(upd s x true) i) = r.filter fun i => !s i := by
        apply List.filter_congr
        intro i hi
        have : i ≠ x := fun e => hn.1 (e ▸ hi)
        simp [upd, this]
      simp [upd, hs]
      simpa [upd] using congrArg List.length this
    · have hne : a ≠ x := fun e => hn.1 (e ▸ hx)
      have := ih hn.2 hx
      by_cases ha : s a = true
      · simp [upd_ne _ _ _ hne, ha, this]
      · simp [upd_ne _ _ _ hne, ha, this]

theorem unseen_upd (s : Nat → Bool) (x : Nat) (hx : x < 12) (hs : s x = false) : unseen (upd s x true) + 1 = unseen s :=
  filter_upd_len s x hs (List.range 12) List.nodup_range (by simpa using hx)

/-- each worker has no need, or one of the first n -/
def Rng (n : Nat) (f : Nat → Int) : Prop := ∀ i, i < 12 → f i = -1 ∨ (0 ≤ f i ∧ f i < n)

theorem Rng.upd {n : Nat} {f : Nat → Int} (h : Rng n f) (x k : Nat) (hk : k < n) : Rng n (upd f x k) := by
  intro i hi
  unfold Ythfcllefmeoicaa.upd
  split
  · right; omega
  · exact h i hi

theorem loopM_keeps {rec : Nat → (Nat → Int) → (Nat → Bool) → St} {can : Nat → Bool} {k n : Nat} (hk : k < n)
    (hrec : ∀ k f s, k < n → Rng n f → Rng n (rec k f s).2.1 ∧ SubS s (rec k f s).2.2) : ∀ (l : List Nat) (f : Nat → Int) (s : Nat → Bool), (∀ x ∈ l, x < 12) → Rng n f → Rng n (loopM rec can k l f s).2.1 ∧ SubS s (loopM rec can k l f s).2.2
  | [], f, s, _, hf => ⟨hf, SubS.refl s⟩
  | x :: r, f, s, hl, hf => by
    have hr : ∀ y ∈ r, y < 12 := fun y hy => hl y (List.mem_cons_of_mem _ hy)
    unfold loopM
    split
    · split
      · exact ⟨hf.upd x k hk, SubS.upd s x⟩
      · rename_i hx hne
        have hfx : 0 ≤ f x ∧ f x < n := (hf x (hl x (List.mem_cons_self))).resolve_left hne
        have h1 := hrec (f x).toNat f (upd s x true) (by omega) hf
        rcases hq : rec (f x).toNat f (upd s x true) with ⟨b, f2, s2⟩
        rw [hq] at h1
        cases b with
        | true => exact ⟨h1.1.upd x k hk, (SubS.upd s x).trans h1.2⟩
        | false =>
          have h2 := loopM_keeps (can := can) hk hrec r f2 s2 hr h1.1
          exact ⟨h2.1, ((SubS.upd s x).trans h1.2).trans h2.2⟩
    · exact loopM_keeps hk hrec r f s hr hf

theorem fillM_keeps (cs : List (Nat → Bool)) (n : Nat) : ∀ m k f s, k < n → Rng n f → Rng n (fillM cs m k f s).2.1 ∧ SubS s (fillM cs m k f s).2.2
  | 0, _, _, s, _, hf => ⟨hf, SubS.refl s⟩
  | m + 1, k, f, s, hk, hf => loopM_keeps hk (fillM_keeps cs n m) (List.range 12) f s (by simp) hf

/-- after k needs: the needs of the workers, and how many needs are filled -/
def largM (cs : List (Nat → Bool)) (b : Nat → Bool) : Nat → (Nat → Int) × Nat
  | 0 => (fun _ => -1, 0)
  | k + 1 => ((fillM cs 13 k (largM cs b k).1 b).2.1, (largM cs b k).2 + if (fillM cs 13 k (largM cs b k).1 b).1 then 1 else 0)
/-- what largest returns -/
def larg (cs : List (Nat → Bool)) (b : Nat → Bool) : Nat := (largM cs b cs.length).2

theorem largM_rng (cs : List (Nat → Bool)) (b : Nat → Bool) : ∀ k, k ≤ cs.length → Rng cs.length (largM cs b k).1
  | 0, _ => fun i _ => Or.inl rfl
  | k + 1, h => (fillM_keeps cs cs.length 13 k _ b (by omega) (largM_rng cs b k (by omega))).1
theorem largM_le (cs : List (Nat → Bool)) (b : Nat → Bool) : ∀ k, (largM cs b k).2 ≤ k
  | 0 => Nat.le_refl _
  | k + 1 => by have := largM_le cs b k; simp only [largM]; split <;> omega
theorem unseen_le (s : Nat → Bool) : unseen s < 13 := by
  unfold unseen
  have := List.length_filter_le (fun i => !s i) (List.range 12)
  simp at this; omega


/-- worker j is the one for need k -/
def picks (cs : List (Nat → Bool)) (k : Nat) (b : Nat → Bool) (left : Int) (j : Nat) : Bool := csAt cs k j && !b j && decide (1 + (larg (cs.drop (k + 1)) (upd b j true) : Int) = left)
/-- the first worker for need k -/
def pickM (cs : List (Nat → Bool)) (k : Nat) (b : Nat → Bool) (left : Int) : Option Nat := (List.range 12).find? (picks cs k b left)
/-- after k needs: who is busy, how many can be filled yet, the list -/
def matM (cs : List (Nat → Bool)) : Nat → (Nat → Bool) × Int × List Int
  | 0 => (fun _ => false, (larg cs fun _ => false), [])
  | k + 1 => match pickM cs k (matM cs k).1 (matM cs k).2.1 with
    | some j => (upd (matM cs k).1 j true, (matM cs k).2.1 - 1, (matM cs k).2.2 ++ [(j : Int)])
    | none => ((matM cs k).1, (matM cs k).2.1, (matM cs k).2.2 ++ [-1])
theorem matM_len (cs : List (Nat → Bool)) : ∀ k, (matM cs k).2.2.length = k
  | 0 => rfl
  | k + 1 => by simp only [matM]; split <;> simp [matM_len cs k]
theorem matM_left (cs : List (Nat → Bool)) : ∀ k : Nat, -(k : Int) ≤ (matM cs k).2.1 ∧ (matM cs k).2.1 ≤ cs.length
  | 0 => by have := largM_le cs (fun _ => false) cs.length; simp only [matM, larg]; omega
  | k + 1 => by have := matM_left cs k; simp only [matM]; split <;> simp only [] <;> omega
theorem matM_some {cs : List (Nat → Bool)} {k j : Nat} (hj : j < 12) (hno : ∀ i, i < j → picks cs k (matM cs k).1 (matM cs k).2.1 i = false) (hp : picks cs k (matM cs k).1 (matM cs k).2.1 j = true) :
    matM cs (k + 1) = (upd (matM cs k).1 j true, (matM cs k).2.1 - 1, (matM cs k).2.2 ++ [(j : Int)]) := by
  have : pickM cs k (matM cs k).1 (matM cs k).2.1 = some j := by
    unfold pickM
    rw [List.find?_range_eq_some]
    exact ⟨hp, by simpa using hj, fun i hi => by rw [hno i hi]; rfl⟩
  simp only [matM, this]
theorem matM_none {cs : List (Nat → Bool)} {k : Nat} (hno : ∀ i, i < 12 → picks cs k (matM cs k).1 (matM cs k).2.1 i = false) :
    matM cs (k + 1) = ((matM cs k).1, (matM cs k).2.1, (matM cs k).2.2 ++ [-1]) := by
  have : pickM cs k (matM cs k).1 (matM cs k).2.1 = none := by
    unfold pickM
    rw [List.find?_eq_none]
    intro i hi
    rw [hno i (by simpa using hi)]; simp
  simp only [matM, this]

end Go.Proofs.Ythfcllefmeoicaa
