/- Parse and Print of rolls in plain Lean, step by step as the code takes them. -/
import Derived.Test.YtphaigncbenmmaaGreatDoorLin
namespace Go.Proofs.YtphaigncbenmmaaGreatDoor
open Go Go.Lib

/-- what Parse's loop keeps: the first k lines gave the rolls acc -/
structure ParUp (ls : List B) (k : Nat) (acc : List Ro) : Prop where
  eq : goP 0 [] ls = goP k acc (ls.drop k)
  few : acc.length ≤ 20
section
variable {ls : List B} {k : Nat} {acc : List Ro} {ro : Ro}
theorem ParUp.start (ls : List B) : ParUp ls 0 [] := ⟨by simp, by simp⟩
theorem ParUp.skip (h : ParUp ls k acc) (hk : k < ls.length) (h0 : ls[k] = []) : ParUp ls (k + 1) acc :=
  ⟨by rw [h.eq, List.drop_eq_getElem_cons hk, goP, if_pos h0], h.few⟩
theorem ParUp.full (h : ParUp ls k acc) (hk : k < ls.length) (h0 : ls[k] ≠ []) (h20 : acc.length = 20) : goP 0 [] ls = ([], 5, k + 1) := by
  rw [h.eq, List.drop_eq_getElem_cons hk, goP, if_neg h0, if_pos h20]
theorem ParUp.bad (h : ParUp ls k acc) (hk : k < ls.length) (h0 : ls[k] ≠ []) (h20 : ¬ acc.length = 20) (hl : lineOf ls[k] = none) : goP 0 [] ls = ([], 2, k + 1) := by
  rw [h.eq, List.drop_eq_getElem_cons hk, goP, if_neg h0, if_neg h20, hl]
theorem ParUp.chk (h : ParUp ls k acc) (hk : k < ls.length) (h0 : ls[k] ≠ []) (h20 : ¬ acc.length = 20) (hl : lineOf ls[k] = some ro) (hc : check ro ≠ 0) : goP 0 [] ls = ([], check ro, k + 1) := by
  rw [h.eq, List.drop_eq_getElem_cons hk, goP, if_neg h0, if_neg h20, hl]
  simp only
  rw [if_neg hc]
theorem ParUp.twice (h : ParUp ls k acc) (hk : k < ls.length) (h0 : ls[k] ≠ []) (h20 : ¬ acc.length = 20) (hl : lineOf ls[k] = some ro) (hc : check ro = 0) (hh : has acc ro.id = true) : goP 0 [] ls = ([], 7, k + 1) := by
  rw [h.eq, List.drop_eq_getElem_cons hk, goP, if_neg h0, if_neg h20, hl]
  simp only
  rw [if_pos hc, if_pos hh]
theorem ParUp.next (h : ParUp ls k acc) (hk : k < ls.length) (h0 : ls[k] ≠ []) (h20 : ¬ acc.length = 20) (hl : lineOf ls[k] = some ro) (hc : check ro = 0) (hh : has acc ro.id = false) : ParUp ls (k + 1) (acc ++ [ro]) := by
  refine ⟨?_, by have := h.few; rw [List.length_append]; simp; omega⟩
  rw [h.eq, List.drop_eq_getElem_cons hk, goP, if_neg h0, if_neg h20, hl]
  simp only
  rw [if_pos hc, if_neg (by rw [hh]; simp)]
theorem ParUp.done (h : ParUp ls k acc) (hk : ¬ k < ls.length) : goP 0 [] ls = (acc, 0, 0) := by
  rw [h.eq, List.drop_of_length_le (by omega), goP]
end

/-- what Print's loop keeps: the first k rolls are printed -/
structure PriUp (l : List Ro) (k : Nat) : Prop where
  eq : goQ [] l = goQ (l.take k) (l.drop k)
  ok : ∀ r ∈ l.take k, Valid r
section
variable {l : List Ro} {k : Nat}
theorem PriUp.start (l : List Ro) : PriUp l 0 := ⟨by simp, by simp⟩
theorem PriUp.chk (h : PriUp l k) (hk : k < l.length) (hc : check l[k] ≠ 0) : goQ [] l = ([], check l[k]) := by
  rw [h.eq, List.drop_eq_getElem_cons hk, goQ, if_neg hc]
theorem PriUp.twice (h : PriUp l k) (hk : k < l.length) (hc : check l[k] = 0) (hh : has (l.take k) l[k].id = true) : goQ [] l = ([], 7) := by
  rw [h.eq, List.drop_eq_getElem_cons hk, goQ, if_pos hc, if_pos hh]
theorem PriUp.next (h : PriUp l k) (hk : k < l.length) (hc : check l[k] = 0) (hh : has (l.take k) l[k].id = false) : PriUp l (k + 1) := by
  have et : l.take (k + 1) = l.take k ++ [l[k]] := List.take_succ_eq_append_getElem hk
  refine ⟨?_, fun r hr => ?_⟩
  · rw [h.eq, List.drop_eq_getElem_cons hk, goQ, if_pos hc, if_neg (by rw [hh]; simp), et]
  · rw [et] at hr
    rcases List.mem_append.1 hr with hr | hr
    · exact h.ok r hr
    · rw [List.mem_singleton] at hr; subst hr; exact check_ok hc
theorem PriUp.done (h : PriUp l k) (hk : ¬ k < l.length) : goQ [] l = (textT l, 0) := by
  rw [h.eq, List.drop_of_length_le (by omega), List.take_of_length_le (by omega), goQ]
theorem textT_snoc (hk : k < l.length) : textT (l.take (k + 1)) = textT (l.take k) ++ (lineT l[k] ++ [10]) := by
  rw [show l.take (k + 1) = l.take k ++ [l[k]] from List.take_succ_eq_append_getElem hk]
  unfold textT; rw [List.flatMap_append]; simp
theorem PriUp.len (h : PriUp l k) : (textT (l.take k)).length ≤ 794 * k := by
  have h1 := flat_length (fun r : Ro => lineT r ++ [10]) 794 (l.take k) (fun r hr => by have := lineT_length (h.ok r hr); simp; omega)
  have h2 : (l.take k).length ≤ k := by rw [List.length_take]; omega
  have h3 : 794 * (l.take k).length ≤ 794 * k := Nat.mul_le_mul_left _ h2
  unfold textT; omega
end

/-- the numbers ahead of a roll's flaws, and a roll's text up to a flaw -/
def headN (r : Ro) : List Int := [r.len, r.wid, r.tl, r.ta, r.tb]
def upT (r : Ro) (j : Nat) : B := Troll ++ 32 :: r.id ++ sp (headN r) ++ (r.fl.take j).flatMap flawT
theorem sp_snoc (l : List Int) (j : Nat) (h : j < l.length) : sp (l.take (j + 1)) = sp (l.take j) ++ 32 :: itoa l[j] := by
  rw [show l.take (j + 1) = l.take j ++ [l[j]] from List.take_succ_eq_append_getElem h]
  unfold sp; rw [List.flatMap_append]; simp
theorem sp_all (l : List Int) (j : Nat) (h : ¬ j < l.length) : sp (l.take j) = sp l := by rw [List.take_of_length_le (by omega)]
theorem upT_zero (r : Ro) : upT r 0 = Troll ++ 32 :: r.id ++ sp (headN r) := by unfold upT; simp
theorem upT_snoc (r : Ro) (j : Nat) (h : j < r.fl.length) : upT r (j + 1) = upT r j ++ (32 :: Tflaw ++ sp [r.fl[j].x, r.fl[j].y, r.fl[j].w, r.fl[j].h]) := by
  unfold upT
  rw [show r.fl.take (j + 1) = r.fl.take j ++ [r.fl[j]] from List.take_succ_eq_append_getElem h, List.flatMap_append]
  simp [flawT]
theorem upT_all (r : Ro) (j : Nat) (h : ¬ j < r.fl.length) : upT r j = lineT r := by
  unfold upT; rw [List.take_of_length_le (by omega)]; rfl
theorem sp_take_len (l : List Int) (j : Nat) (h : ∀ n ∈ l, (itoa n).length ≤ 7) : (sp (l.take j)).length ≤ 8 * l.length := by
  have h1 := sp_length (l.take j) (fun n hn => h n (List.mem_of_mem_take hn))
  have h2 : (l.take j).length ≤ l.length := by rw [List.length_take]; omega
  omega
theorem upT_len {r : Ro} (h : Valid r) (j : Nat) : (upT r j).length ≤ 793 := by
  obtain ⟨hs1, hs2⟩ := h.short
  have h1 := sp_length _ hs1
  have h2 := flat_length flawT 37 (r.fl.take j) (fun f hf => by
    have := sp_length _ (hs2 f (List.mem_of_mem_take hf))
    unfold flawT
    simp [Tflaw] at this ⊢; omega)
  have h3 := h.few
  have h5 : (r.fl.take j).length ≤ r.fl.length := by rw [List.length_take]; omega
  have h4 : r.id.length ≤ 8 := by
    have := h.id
    simp only [idOk, Bool.and_eq_true, decide_eq_true_eq] at this
    omega
  unfold upT headN
  simp [Troll] at h1 h2 ⊢; omega

/-! ### What few says -/
def few1 (r : Ro) : Bool := decide (r.fl.length ≤ 30 ∧ r.id.length ≤ 100)
def fewL (l : List Ro) : Bool := decide (l.length ≤ 30) && l.all few1
theorem fewL_iff (l : List Ro) : fewL l = true ↔ l.length ≤ 30 ∧ ∀ r ∈ l, r.fl.length ≤ 30 ∧ r.id.length ≤ 100 := by
  unfold fewL few1; simp [List.all_eq_true]
/-- the first k rolls are few -/
structure FewUp (l : List Ro) (k : Nat) : Prop where
  all : ∀ j (h : j < l.length), j < k → few1 l[j] = true
theorem FewUp.zero (l : List Ro) : FewUp l 0 := ⟨fun j _ h => absurd h (by omega)⟩
theorem FewUp.next {l : List Ro} {k : Nat} (h : FewUp l k) (hk : k < l.length) (h1 : few1 l[k] = true) : FewUp l (k + 1) := ⟨fun j hj hjk => by
  rcases Nat.lt_or_ge j k with h2 | h2
  · exact h.all j hj h2
  · obtain rfl : j = k := by omega
    exact h1⟩
theorem few_no {l : List Ro} {k : Nat} (hk : k < l.length) (h1 : few1 l[k] = false) : fewL l = false := by
  unfold fewL
  have : l.all few1 = false := by
    cases e : l.all few1 with
    | false => rfl
    | true => rw [List.all_eq_true.1 e _ (List.getElem_mem hk)] at h1; cases h1
  rw [this]; simp
theorem FewUp.done {l : List Ro} {k : Nat} (h : FewUp l k) (hk : ¬ (k < l.length ∧ k < 30)) (hle : k ≤ l.length) : fewL l = decide (l.length ≤ 30) := by
  unfold fewL
  by_cases h30 : l.length ≤ 30
  · have : l.all few1 = true := by
      rw [List.all_eq_true]
      intro r hr
      obtain ⟨j, hj, rfl⟩ := List.getElem_of_mem hr
      exact h.all j hj (by omega)
    rw [this]; simp
  · simp [h30]

/-! ### Stretches -/
def strP (r : Ro) (least : Int) : List (Int × Int) × Int := if check r = 0 then (longer least (zones r.len r.fl), 0) else ([], check r)
theorem strP_bad {r : Ro} (least : Int) (h : check r ≠ 0) : strP r least = ([], check r) := by unfold strP; rw [if_neg h]
theorem strP_ok {r : Ro} (least : Int) (h : check r = 0) : strP r least = (longer least (zones r.len r.fl), 0) := by unfold strP; rw [if_pos h]
theorem strP_one {r : Ro} (h : check r = 0) : strP r 1 = (zones r.len r.fl, 0) := by
  rw [strP_ok 1 h]
  have hg := zones_good (by have := (check_ok h).len; omega) (check_ok h).fits
  have : longer 1 (zones r.len r.fl) = zones r.len r.fl := by
    unfold longer
    rw [List.filter_eq_self]
    intro z hz
    have := hg.sep.2 z hz
    simp; omega
  rw [this]

/-- what the sweep's loop keeps -/
structure SwUp (least : Int) (fs : List Fl) (k : Nat) (c : Int) (zs : List (Int × Int)) : Prop where
  eq : sweepL least 0 fs = zs ++ sweepL least c (fs.drop k)
  c0 : 0 ≤ c
  c1 : c ≤ 2097152
  len : zs.length ≤ k
theorem SwUp.start (least : Int) (fs : List Fl) : SwUp least fs 0 0 [] := ⟨by simp, by omega, by omega, by simp⟩
theorem SwUp.yes {least : Int} {fs : List Fl} {k : Nat} {c : Int} {zs : List (Int × Int)} (h : SwUp least fs k c zs) (hk : k < fs.length) (h1 : c < fs[k].x) (h2 : least ≤ fs[k].x - c) (h3 : fs[k].x + fs[k].w ≤ 2097152) : SwUp least fs (k + 1) (max c (fs[k].x + fs[k].w)) (zs ++ [(c, fs[k].x)]) := by
  have := h.c0
  have := h.c1
  refine ⟨?_, by omega, by omega, by have := h.len; simp; omega⟩
  rw [h.eq, List.drop_eq_getElem_cons hk, sweepL, if_pos ⟨h1, h2⟩]; simp
theorem SwUp.no {least : Int} {fs : List Fl} {k : Nat} {c : Int} {zs : List (Int × Int)} (h : SwUp least fs k c zs) (hk : k < fs.length) (h1 : ¬ (c < fs[k].x ∧ least ≤ fs[k].x - c)) (h3 : fs[k].x + fs[k].w ≤ 2097152) : SwUp least fs (k + 1) (max c (fs[k].x + fs[k].w)) zs := by
  have := h.c0
  have := h.c1
  refine ⟨?_, by omega, by omega, by have := h.len; omega⟩
  rw [h.eq, List.drop_eq_getElem_cons hk, sweepL, if_neg h1]; simp
theorem SwUp.done {least : Int} {fs : List Fl} {k : Nat} {c : Int} {zs : List (Int × Int)} (h : SwUp least fs k c zs) (hk : ¬ k < fs.length) : sweepL least 0 fs = zs := by
  rw [h.eq, List.drop_of_length_le (by omega), sweepL]; simp
/-- the sweep over the flaws in ascending order, the roll's end behind them -/
theorem sweepL_zones {r : Ro} (least : Int) (h : check r = 0) {q : List Fl} (hp : q.Perm r.fl) (hs : q.Pairwise fun a b => a.x ≤ b.x) : sweepL least 0 (q ++ [⟨r.len, 0, 0, 0⟩]) = longer least (zones r.len r.fl) := by
  rw [sweepL_eq, sweep_zones (by have := (check_ok h).len; omega) (check_ok h).fits (fun f => hp.mem_iff) hs]

end Go.Proofs.YtphaigncbenmmaaGreatDoor
