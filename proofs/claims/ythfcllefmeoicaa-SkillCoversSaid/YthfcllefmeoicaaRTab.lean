/- The reference's sets of workers: has, with; the table. -/
import Derived.Test.YthfcllefmeoicaaSCh
import Derived.Test.YthfcllefmeoicaaLawC
import Derived.StillTailTactics
namespace Go.Proofs.Ythfcllefmeoicaa
open Go.RowKit
attribute [local go_sem ↓] Go.wp_at_zero Go.wp_at_succ

theorem has_spell (b j : Nat) : (((b : Int) / 2 ^ j).tmod 2 == 1) = b.testBit j := by
  have h1 : ((b : Int) / 2 ^ j) = ((b / 2 ^ j : Nat) : Int) := by simp
  rw [h1, Int.tmod_eq_emod_of_nonneg (Int.natCast_nonneg _), Nat.testBit_eq_decide_div_mod_eq]
  have h2 : ((b / 2 ^ j : Nat) : Int) % 2 = ((b / 2 ^ j % 2 : Nat) : Int) := by simp
  rw [h2]
  rcases Nat.mod_two_eq_zero_or_one (b / 2 ^ j) with h | h <;> rw [h] <;> rfl

set_option maxHeartbeats 400000 in
theorem c_has (b j : Nat) (w : World) (_hb : b ≤ 4096) (hj : j ≤ 12) : Calls Try.prog 35 #[.int .i64 b, .int .i64 j] w fun e w' => e = .returned (.bool (b.testBit j)) ∧ w = w' := by
  go_enter Try.func35, Try.ntmps35
  go_wp2
  go_ret
  exact ⟨ret_bool (has_spell b j), rfl⟩

theorem or_i64 (a c : Nat) (ha : a < 4611686018427387904) (hc : c < 4611686018427387904) : bits .or .i64 (a : Int) (c : Int) = ((a ||| c : Nat) : Int) := by
  have h1 : ∀ x : Nat, x < 4611686018427387904 → (BitVec.ofInt 64 (x : Int)).toNat = x := fun x hx => by
    rw [BitVec.ofInt_natCast, BitVec.toNat_ofNat]; exact Nat.mod_eq_of_lt (by omega)
  show IntKind.i64.wrap ((BitVec.ofInt 64 (a : Int) ||| BitVec.ofInt 64 (c : Int)).toNat : Int) = _
  rw [BitVec.toNat_or, h1 a ha, h1 c hc]
  have : a ||| c < 2 ^ 62 := Nat.or_lt_two_pow (by omega) (by omega)
  exact IntWalk.i64_in _ (by omega)

set_option maxHeartbeats 400000 in
theorem c_with (b j : Nat) (w : World) (hb : b ≤ 4096) (hj : j ≤ 12) : Calls Try.prog 36 #[.int .i64 b, .int .i64 j] w fun e w' => e = .returned (.int .i64 ((b ||| 2 ^ j : Nat) : Int)) ∧ w = w' := by
  obtain ⟨N, hN, hN2, hpw⟩ := pow_wrap j hj
  go_enter Try.func36, Try.ntmps36
  go_wp2
  go_ret
  refine ⟨ret_int ?_, rfl⟩
  rw [← hN]
  rw [show (2 : Int) ^ j = (N : Int) by rw [hN]; simp]
  exact or_i64 b N (by omega) (by omega)

/-- a row of numbers -/
def natA (N : Nat) (F : Nat → Nat) : Array Value := ((List.range N).map fun x => Value.int .i64 (F x : Nat)).toArray
theorem natA_size (N : Nat) (F : Nat → Nat) : (natA N F).size = N := by simp [natA]
theorem natA_get (N : Nat) (F : Nat → Nat) (x : Nat) (h : x < N) : (natA N F)[x]? = some (.int .i64 (F x : Nat)) := by simp [natA, h]
theorem natA_set (N : Nat) (F : Nat → Nat) (x v : Nat) : (natA N F).setIfInBounds x (.int .i64 (v : Nat)) = natA N (upd F x v) := by
  apply Array.ext
  · simp [natA_size]
  · intro i h1 h2
    by_cases hk : x = i
    · subst hk; simp [natA, upd]
    · simp [natA, upd, hk, Ne.symm hk]
theorem natA_zero (N : Nat) : resA N [] = natA N (fun _ => 0) := by
  unfold resA natA; simp

/-- what the table holds for i needs settled and the set b -/
def tbl (cs : List (Nat → Bool)) (n i b : Nat) : Nat := larg (cs.drop i) (bitC n b)
/-- its row i -/
def rowL (cs : List (Nat → Bool)) (n i : Nat) : List Int := (List.range (2 ^ n)).map fun b => ((tbl cs n i b : Nat) : Int)
theorem rowL_len (cs : List (Nat → Bool)) (n i : Nat) : (rowL cs n i).length = 2 ^ n := by simp [rowL]
theorem rowL_get (cs : List (Nat → Bool)) (n i b : Nat) (h : b < (rowL cs n i).length) : (rowL cs n i)[b] = ((tbl cs n i b : Nat) : Int) := by simp [rowL]
theorem tbl_end (cs : List (Nat → Bool)) (n b : Nat) : tbl cs n cs.length b = 0 := by
  unfold tbl; rw [List.drop_length]; rfl
theorem tbl_le (cs : List (Nat → Bool)) (n i b : Nat) : tbl cs n i b ≤ cs.length := by
  unfold tbl larg
  have := largM_le (cs.drop i) (bitC n b) (cs.drop i).length
  rw [List.length_drop] at this ⊢
  omega

theorem bitC_or (n b j : Nat) (hj : j < n) : bitC n (b ||| 2 ^ j) = upd (bitC n b) j true := by
  funext x
  unfold upd bitC
  by_cases h : x = j
  · subst h; simp [hj]
  · simp only [h, if_false, Nat.testBit_or, Nat.testBit_two_pow]
    have : decide (j = x) = false := by simp; omega
    rw [this, Bool.or_false]

/-- the entry while the workers are gone through -/
def prt (T : Nat → Nat) (can : Nat → Bool) (b : Nat) : Nat → Nat
  | 0 => T b
  | j + 1 => if !b.testBit j && can j then max (prt T can b j) (1 + T (b ||| 2 ^ j)) else prt T can b j
theorem prt_mono (T : Nat → Nat) (can : Nat → Bool) (b : Nat) : ∀ {j k : Nat}, j ≤ k → prt T can b j ≤ prt T can b k
  | j, 0, h => by rw [Nat.le_zero.1 h]; exact Nat.le_refl _
  | j, k + 1, h => by
    by_cases e : j = k + 1
    · rw [e]; exact Nat.le_refl _
    · have ih := prt_mono T can b (j := j) (k := k) (by omega)
      rw [prt]
      split <;> omega
theorem prt_full (cs : List (Nat → Bool)) (n i b : Nat) (hi : i < cs.length) (hn : n ≤ 12) (hc : ∀ j, csAt cs i j = true → j < n) :
    prt (tbl cs n (i + 1)) (csAt cs i) b n = tbl cs n i b := by
  have hd := drop_cons cs i hi
  have hcs : ∀ j, cs[i] j = csAt cs i j := fun j => (csAt_get hi j).symm
  have hle : ∀ j, j ≤ n → prt (tbl cs n (i + 1)) (csAt cs i) b j ≤ tbl cs n i b := by
    intro j
    induction j with
    | zero =>
      intro _
      unfold prt tbl
      rw [hd]; exact larg_skip _ _ _
    | succ j ih =>
      intro hj
      have h1 := ih (by omega)
      rw [prt]
      split
      · rename_i hb
        simp at hb
        have h2 : 1 + tbl cs n (i + 1) (b ||| 2 ^ j) ≤ tbl cs n i b := by
          unfold tbl
          rw [hd, bitC_or n b j (by omega)]
          exact larg_take _ (by omega) (by rw [hcs]; exact hb.2) (by unfold bitC; simp [hb.1])
        omega
      · exact h1
  refine Nat.le_antisymm (hle n (Nat.le_refl _)) ?_
  rcases larg_cases cs[i] (cs.drop (i + 1)) (bitC n b) with e | ⟨j, hj, h1, h2, h3⟩
  · have h0 := prt_mono (tbl cs n (i + 1)) (csAt cs i) b (j := 0) (k := n) (by omega)
    have : tbl cs n i b = tbl cs n (i + 1) b := by unfold tbl; rw [hd]; exact e
    rw [this]; exact h0
  · have hjn : j < n := hc j (by rw [← hcs]; exact h1)
    have h0 := prt_mono (tbl cs n (i + 1)) (csAt cs i) b (j := j + 1) (k := n) (by omega)
    have hb : b.testBit j = false := by unfold bitC at h2; simpa [hjn] using h2
    have ht : tbl cs n i b = 1 + tbl cs n (i + 1) (b ||| 2 ^ j) := by unfold tbl; rw [hd, bitC_or n b j hjn]; exact h3
    have hp : prt (tbl cs n (i + 1)) (csAt cs i) b (j + 1) = max (prt (tbl cs n (i + 1)) (csAt cs i) b j) (1 + tbl cs n (i + 1) (b ||| 2 ^ j)) := by
      rw [prt, hb, ← hcs, h1]; simp
    omega

theorem info26 : (Try.prog.info? 26).map (fun i => (i.zero, i.size, i.bytes)) = some (some (.slice none 0 0), 1, 24) := by kernel_rfl
/-- a row of empty slices -/
def outZ (n : Nat) : Array Value := madeCells #[.slice none 0 0] n
theorem outZ_size (n : Nat) : (outZ n).size = n := size_madeCells _ _
theorem outZ_no (n : Nat) : noInt (outZ n) = true := by
  unfold noInt outZ madeCells
  rw [Array.all_eq_true_iff_forall_mem]
  intro v hv
  rw [Array.mem_map] at hv
  obtain ⟨k, _, rfl⟩ := hv
  simp [Nat.mod_one]
theorem make_out (n : Nat) (hn : n ≤ 1000000) (w : World) : (Instr.makeSlice 60 (.int .i64 n) (.int .i64 n)).run Try.prog w = .ok (.slice (some ⟨w.heap.size, 0, none⟩) n n) (w.alloc (.cells (outZ n) 26)) := by
  obtain ⟨i, hi, hz, hs, hb⟩ := info_parts info26
  have hr := run_make (P := Try.prog) w 60 26 i _ Try.underlying60 hi hz .i64 .i64 n n (by omega) (by omega) (by rw [hb]; omega) (by omega)
  rw [hr, hs]
  simp only [Int.toNat_natCast, Value.cells, Nat.mul_one]
  rfl

/-- the rows from k on -/
def Rows' (cs : List (Nat → Bool)) (n : Nat) (w : World) (g : Nat) (t : Int) : Prop :=
  ∃ ds : Array Value, Blk w g 26 ds ∧ ds.size = cs.length + 1 ∧ noInt ds = true ∧ ∀ j : Nat, t < j → j ≤ cs.length → ∃ A cap, ds[j]? = some (.slice A (2 ^ n) cap) ∧ RdI w (.slice A (2 ^ n) cap) (rowL cs n j)
/-- what table returns -/
def TabOk (cs : List (Nat → Bool)) (n : Nat) (w : World) (v : Value) : Prop :=
  ∃ g, v = .slice (some ⟨g, 0, none⟩) (cs.length + 1) (cs.length + 1) ∧ Rows' cs n w g (-1)
theorem Rows'.ext {cs : List (Nat → Bool)} {n : Nat} {w w' : World} {g : Nat} {t : Int} (h : Rows' cs n w g t) (he : Ext w w') : Rows' cs n w' g t := by
  obtain ⟨ds, h1, h2, h3, h4⟩ := h
  refine ⟨ds, h1.ext he, h2, h3, fun j hj hk => ?_⟩
  obtain ⟨A, cap, e, hr⟩ := h4 j hj hk
  exact ⟨A, cap, e, hr.ext he⟩
theorem TabOk.ext {cs : List (Nat → Bool)} {n : Nat} {w w' : World} {v : Value} (h : TabOk cs n w v) (he : Ext w w') : TabOk cs n w' v := by
  obtain ⟨g, e, hr⟩ := h; exact ⟨g, e, hr.ext he⟩
theorem rdI_two {w w' : World} {v : Value} {xs : List Int} {g : Nat} {t : TypeId} {cs : Array Value} (h : RdI w v xs) (ht : Two g g w w') (hb : Blk w g t cs) (hn : noInt cs = true) : RdI w' v xs := by
  obtain ⟨A, cap, rfl, h1, h2, h3⟩ := h
  refine ⟨A, cap, rfl, h1, h2, fun j hj => ?_⟩
  obtain ⟨b, o, rfl, hc⟩ := h3 j hj
  refine ⟨b, o, rfl, ?_⟩
  have hne : b ≠ g := fun e => by
    subst e
    rw [hb.cell] at hc
    unfold noInt at hn
    rw [Array.all_eq_true_iff_forall_mem] at hn
    have := hn _ (Array.mem_of_getElem? hc)
    cases this
  have e : w'.cell? ⟨b, o + j, none⟩ = w.cell? ⟨b, o + j, none⟩ := World.cell?_of_block (ht.block b hne hne)
  rw [e]; exact hc
theorem noInt_set {cs : Array Value} {i : Nat} {A : Option Addr} {n c : Nat} (h : noInt cs = true) : noInt (cs.setIfInBounds i (.slice A n c)) = true := by
  unfold noInt at h ⊢
  rw [Array.all_eq_true_iff_forall_mem] at h ⊢
  intro v hv
  rcases Array.mem_or_eq_of_mem_setIfInBounds hv with h1 | h1
  · exact h v h1
  · subst h1; rfl
/-- one row more -/
theorem Rows'.put {cs : List (Nat → Bool)} {n : Nat} {w : World} {g i r : Nat} (h : Rows' cs n w g (i : Int)) (hi : i ≤ cs.length) (hr : RdI w (.slice (some ⟨r, 0, none⟩) (2 ^ n) (2 ^ n)) (rowL cs n i)) :
    Rows' cs n (w.setCell ⟨g, i, none⟩ (.slice (some ⟨r, 0, none⟩) (2 ^ n) (2 ^ n))) g ((i : Int) - 1) := by
  obtain ⟨ds, h1, h2, h3, h4⟩ := h
  have ht : Two g g w (w.setCell ⟨g, i, none⟩ (.slice (some ⟨r, 0, none⟩) (2 ^ n) (2 ^ n))) := (Two.refl g g w).set (Or.inl rfl) _
  refine ⟨_, h1.set_ i _, by simpa using h2, noInt_set h3, fun j hj hk => ?_⟩
  by_cases e : j = i
  · subst e
    exact ⟨some ⟨r, 0, none⟩, 2 ^ n, by rw [Array.getElem?_setIfInBounds_self_of_lt (by omega)], rdI_two hr ht h1 h3⟩
  · obtain ⟨A, cap, e2, hr2⟩ := h4 j (by omega) hk
    exact ⟨A, cap, by rw [Array.getElem?_setIfInBounds_ne (by omega)]; exact e2, rdI_two hr2 ht h1 h3⟩
theorem natA_rd {w : World} {r N : Nat} {F : Nat → Nat} (h : Blk w r 3 (natA N F)) (hN : N ≤ 4096) {xs : List Int} (hl : xs.length = N) (hx : ∀ j (hj : j < xs.length), xs[j] = ((F j : Nat) : Int)) : RdI w (.slice (some ⟨r, 0, none⟩) N N) xs := by
  refine ⟨_, N, by rw [hl], by omega, by unfold maxLen; omega, fun j hj => ⟨r, 0, rfl, ?_⟩⟩
  rw [Nat.zero_add, h.cell, natA_get N F j (by omega), hx j hj]
end Go.Proofs.Ythfcllefmeoicaa
