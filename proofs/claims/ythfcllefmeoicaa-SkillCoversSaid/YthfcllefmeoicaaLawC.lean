/- The cover that Cover finds: as large as the match, and every able pair is covered. Plain Lean. -/
import Derived.Test.YthfcllefmeoicaaSAb
namespace Go.Proofs.Ythfcllefmeoicaa

theorem memC_cnt (c : Nat → Bool) (k : Nat) : (memC c k).length = cnt k c := by
  unfold memC cnt; rw [List.length_map, List.countP_eq_length_filter]
theorem memI_memC (c : Nat → Bool) (m j : Nat) : memI (j : Int) (memC c m) = (decide (j < m) && c j) := by
  rw [Bool.eq_iff_iff, memI_iff]
  unfold memC
  simp only [List.mem_map, List.mem_filter, List.mem_range, Bool.and_eq_true, decide_eq_true_eq]
  constructor
  · rintro ⟨a, h, e⟩
    have : a = j := by omega
    subst this; exact h
  · intro h; exact ⟨j, h, rfl⟩
theorem openN_unc (cs : List (Nat → Bool)) (c : Nat → Bool) (k : Nat) : openN cs c k 12 = uncB cs (fun _ => false) c k := by
  unfold openN uncB; simp
theorem uncM_cnt (cs : List (Nat → Bool)) (c : Nat → Bool) (n : Nat) : (uncM cs c n).length = cnt n (uncB cs (fun _ => false) c) := by
  unfold uncM; rw [memC_cnt]; exact cnt_congr fun k _ => openN_unc cs c k

/-- a cover of the size of the match -/
def Good (cs : List (Nat → Bool)) (c : Nat → Bool) : Prop := (memC c 12).length + (uncM cs c cs.length).length = larg cs (fun _ => false)
theorem covM_found (cs : List (Nat → Bool)) (n : Nat) : ∀ N, (covM cs n N).1 = true → ∃ b, b < N ∧ Good cs (bitC n b) ∧ covM cs n N = (true, memC (bitC n b) 12, uncM cs (bitC n b) cs.length)
  | 0, h => by cases h
  | N + 1, h => by
    rw [covM] at h ⊢
    split
    · rename_i hc
      exact ⟨N, by omega, hc.1, rfl⟩
    · rename_i hc
      rw [if_neg hc] at h
      obtain ⟨b, hb, h1, h2⟩ := covM_found cs n N h
      exact ⟨b, by omega, h1, h2⟩
theorem covM_finds (cs : List (Nat → Bool)) (n : Nat) : ∀ N b, b < N → Good cs (bitC n b) → (covM cs n N).1 = true
  | 0, _, h, _ => absurd h (by omega)
  | N + 1, b, h, hg => by
    rw [covM]
    by_cases e : b = N
    · subst e
      cases hf : (covM cs n b).1 with
      | false => rw [if_pos ⟨hg, .inl rfl⟩]
      | true => split; rfl; exact hf
    · have ih := covM_finds cs n N b (by omega) hg
      split
      · rfl
      · exact ih

theorem bits_of (Z : Nat → Bool) : ∀ n, ∃ b, b < 2 ^ n ∧ ∀ i, i < n → b.testBit i = Z i
  | 0 => ⟨0, by simp, fun i h => absurd h (by omega)⟩
  | n + 1 => by
    obtain ⟨b, hb, h⟩ := bits_of Z n
    cases hz : Z n with
    | true =>
      refine ⟨2 ^ n + b, by rw [Nat.pow_succ]; omega, fun i hi => ?_⟩
      by_cases e : i = n
      · subst e; rw [Nat.testBit_two_pow_add_eq, Nat.testBit_lt_two_pow hb, hz]; rfl
      · rw [Nat.testBit_two_pow_add_gt (by omega)]; exact h i (by omega)
    | false =>
      refine ⟨b, by rw [Nat.pow_succ]; omega, fun i hi => ?_⟩
      by_cases e : i = n
      · subst e; rw [Nat.testBit_lt_two_pow hb, hz]
      · exact h i (by omega)

theorem cov_good (cs : List (Nat → Bool)) (n : Nat) (hn : ∀ j i, csAt cs j i = true → i < n) : ∃ b, b < 2 ^ n ∧ Good cs (bitC n b) := by
  obtain ⟨⟨m, hm, e⟩, Z, hZ, hz⟩ := larg_both cs (fun _ => false)
  obtain ⟨b, hb, hbit⟩ := bits_of Z n
  refine ⟨b, hb, ?_⟩
  have hw := weak hm (bitC n b)
  unfold Good
  rw [memC_cnt, uncM_cnt]
  have h1 : cnt 12 (bitC n b) ≤ cnt 12 Z := cnt_mono fun i _ hi => by
    unfold bitC at hi
    simp at hi
    rw [← hbit i hi.1]; exact hi.2
  have h2 : cnt cs.length (uncB cs (fun _ => false) (bitC n b)) ≤ cnt cs.length (uncB cs (fun _ => false) Z) := cnt_mono fun j _ hj => by
    obtain ⟨i, hi, a, c, d⟩ := (uncB_iff _ _ _ _).1 hj
    have hin := hn j i a
    refine (uncB_iff _ _ _ _).2 ⟨i, hi, a, c, ?_⟩
    rw [← hbit i hin]
    unfold bitC at d
    simpa [hin] using d
  omega

theorem filledI_pos (l : List Int) : filledI l = posN l := by unfold filledI posN; rw [List.countP_eq_length_filter]

theorem cvL_spec {ws : List Wk} {needs : List Int} (h : askE ws needs = 0) : (cvL ws needs).1.length + (cvL ws needs).2.length = filledI (mtL ws needs) ∧
    ∀ (k : Nat) (hk : k < needs.length) (j : Nat) (hj : j < ws.length), memI needs[k] ws[j].mach = true → memI (j : Int) (cvL ws needs).1 = true ∨ memI (k : Int) (cvL ws needs).2 = true := by
  obtain ⟨_, h12, _, _⟩ := askE_ok h
  have hn : ∀ j i, csAt (setsW ws needs) j i = true → i < ws.length := fun j i hc => by
    obtain ⟨_, hi, _⟩ := able_of hc; exact hi
  obtain ⟨b, hb, hg⟩ := cov_good (setsW ws needs) ws.length hn
  have hf := covM_finds (setsW ws needs) ws.length (2 ^ ws.length) b hb hg
  obtain ⟨c, hc, hg2, he⟩ := covM_found (setsW ws needs) ws.length (2 ^ ws.length) hf
  unfold cvL mtL
  rw [if_pos h, if_pos h, he, filledI_pos, matL_fills]
  refine ⟨hg2, fun k hk j hj hcan => ?_⟩
  rw [memI_memC]
  unfold uncM
  rw [memI_memC, setsW_len]
  cases hbit : bitC ws.length c j with
  | true => left; simp; omega
  | false =>
    right
    simp only [hk, decide_true, Bool.true_and]
    exact openN_yes (by omega) (by rw [able_at hk hj]; exact hcan) hbit
theorem cvL_err {ws : List Wk} {needs : List Int} (h : ¬ askE ws needs = 0) : (mtL ws needs).length = 0 ∧ (cvL ws needs).1.length = 0 ∧ (cvL ws needs).2.length = 0 := by
  unfold cvL mtL; rw [if_neg h, if_neg h]; exact ⟨rfl, rfl, rfl⟩
end Go.Proofs.Ythfcllefmeoicaa
