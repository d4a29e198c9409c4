/- Rows of workers that a call makes itself: what they hold, and append onto them, also in a region that draws its order. -/
import Derived.Test.YthfcllefmeoicaaSAb
namespace Go.Proofs.Ythfcllefmeoicaa
open Go.RowKit

/-- a worker, with the slice value of the machines -/
abbrev EW := Wk × Value
def cellsW (l : List EW) : List Value := l.flatMap fun x => [.string x.1.name, x.2]
theorem cellsW_len (l : List EW) : (cellsW l).length = l.length * 2 := by
  unfold cellsW
  induction l with
  | nil => rfl
  | cons x r ih => simp [List.flatMap_cons, ih]; omega
theorem cellsW_app (l k : List EW) : cellsW (l ++ k) = cellsW l ++ cellsW k := by unfold cellsW; rw [List.flatMap_append]
theorem cellsW_get : ∀ (l : List EW) (j : Nat) (h : j < l.length), (cellsW l)[j * 2]? = some (.string l[j].1.name) ∧ (cellsW l)[j * 2 + 1]? = some l[j].2
  | [], j, h => absurd h (by simp)
  | x :: r, j, h => by
    have e : cellsW (x :: r) = [.string x.1.name, x.2] ++ cellsW r := rfl
    rcases j with _ | j
    · exact ⟨rfl, rfl⟩
    · have ih := cellsW_get r j (by simpa using h)
      rw [e]
      have e1 : (j + 1) * 2 = j * 2 + 2 := by omega
      rw [e1]
      refine ⟨?_, ?_⟩
      · rw [List.getElem?_append_right (by simp)]; simpa using ih.1
      · rw [List.getElem?_append_right (by simp)]; simpa using ih.2

/-- the row from A on holds these workers -/
def SrcW (w : World) (A : Option Addr) (l : List EW) : Prop := ∀ j (h : j < l.length), ∃ b o, A = some ⟨b, o, none⟩ ∧ w.cell? ⟨b, o + j * 2, none⟩ = some (.string l[j].1.name) ∧ w.cell? ⟨b, o + j * 2 + 1, none⟩ = some l[j].2
theorem SrcW.ext {w w' : World} {A : Option Addr} {l : List EW} (h : SrcW w A l) (he : Ext w w') : SrcW w' A l := fun j hj => by
  obtain ⟨b, o, e, h1, h2⟩ := h j hj
  exact ⟨b, o, e, he.cell h1, he.cell h2⟩
/-- each worker's machines read as they should -/
def GoodW (w : World) (l : List EW) : Prop := ∀ x ∈ l, RdI w x.2 x.1.mach ∧ x.1.name.size ≤ maxLen
theorem GoodW.ext {w w' : World} {l : List EW} (h : GoodW w l) (he : Ext w w') : GoodW w' l := fun x hx => ⟨(h x hx).1.ext he, (h x hx).2⟩

theorem RdW.open_ {w : World} {A : Option Addr} {n cap : Nat} {ws : List Wk} (h : RdW w (.slice A n cap) ws) : ∃ l : List EW, l.map (·.1) = ws ∧ SrcW w A l ∧ GoodW w l := by
  obtain ⟨A', cap', e, _, _, hc⟩ := h
  injection e with e1 _ _
  subst e1
  have hall : ∃ f : Nat → Value, ∀ j (h : j < ws.length), ∃ b o, A = some ⟨b, o, none⟩ ∧ w.cell? ⟨b, o + j * 2, none⟩ = some (.string ws[j].name) ∧ w.cell? ⟨b, o + j * 2 + 1, none⟩ = some (f j) ∧ RdI w (f j) ws[j].mach ∧ ws[j].name.size ≤ maxLen := by
    refine ⟨fun j => if h : j < ws.length then (hc j h).choose_spec.choose_spec.choose else undef, fun j h => ?_⟩
    simp only [dif_pos h]
    exact ⟨_, _, (hc j h).choose_spec.choose_spec.choose_spec⟩
  obtain ⟨f, hf⟩ := hall
  have hl : ((List.range ws.length).map fun j => ((ws.getD j ⟨ByteArray.empty, []⟩, f j) : EW)).map (·.1) = ws := by
    apply List.ext_getElem
    · simp
    · intro i h1 h2
      simp [h2]
  refine ⟨_, hl, fun j hj => ?_, fun x hx => ?_⟩
  · have hj' : j < ws.length := by simpa using hj
    obtain ⟨b, o, e, h1, h2, _⟩ := hf j hj'
    exact ⟨b, o, e, by simpa [hj'] using h1, by simpa [hj'] using h2⟩
  · simp only [List.mem_map, List.mem_range] at hx
    obtain ⟨j, hj, rfl⟩ := hx
    obtain ⟨b, o, e, h1, h2, h3, h4⟩ := hf j hj
    simpa [hj] using And.intro h3 h4

/-- The slice value v owns these workers, in a row of its own from block B on. -/
def OwnW (B : Nat) (w : World) (v : Value) (l : List EW) : Prop := w.ownsRow B 28 2 v l.length (cellsW l)
section
variable {B : Nat} {w w' w0 : World} {v : Value} {l : List EW}
theorem OwnW.nil (B : Nat) (w : World) : OwnW B w (.slice none 0 0) [] := World.ownsRow_nil w B 28 2
theorem OwnW.base (h : OwnW B w v l) : ∀ g, v.ownBlock = some g → B ≤ g := fun g hg => (World.ownsRow.lt h g hg).1
theorem OwnW.slice (h : OwnW B w v l) : ∃ A cap, v = .slice A l.length cap := by
  rcases h.2 with ⟨rfl, h0⟩ | ⟨g, cap, cur, rfl, _⟩
  · exact ⟨none, 0, by rw [h0]⟩
  · exact ⟨_, _, rfl⟩
theorem OwnW.alloc (h : OwnW B w v l) (o : Obj) : OwnW B (w.alloc o) v l := World.ownsRow.alloc h o
theorem OwnW.ext (h : OwnW B w v l) (he : Ext w w') : OwnW B w' v l := by
  refine World.ownsRow.kept h (row := none) ⟨he.below.os, he.below.tape, he.below.output, he.size, fun i hi _ => he.below.block i hi⟩ ?_
  cases v.ownBlock <;> simp
theorem OwnW.extGrown (h : OwnW B w v l) (hX : Ext w0 w) (hB : w0.heap.size ≤ B) (hg : w.grownBy w' v.ownBlock) : Ext w0 w' :=
  hX.grown hg (fun g hgg => Nat.le_trans hB (h.base g hgg))
theorem OwnW.rdW (h : OwnW B w v l) (hg : GoodW w l) : RdW w v (l.map (·.1)) := by
  rcases h.2 with ⟨rfl, h0⟩ | ⟨g, cap, cur, rfl, _, hh, hn, hm, hs, ht⟩
  · have : l = [] := List.length_eq_zero_iff.1 h0
    subst this
    exact ⟨none, 0, rfl, by simp, by simp [maxLen], fun j hj => absurd hj (by simp)⟩
  · refine ⟨some ⟨g, 0, none⟩, cap, by simp, by simpa using hn, hm, fun j hj => ?_⟩
    have hj' : j < l.length := by simpa using hj
    obtain ⟨c1, c2⟩ := cellsW_get l j hj'
    obtain ⟨g1, g2⟩ := hg l[j] (List.getElem_mem hj')
    rw [← ht, List.getElem?_take, if_pos (by omega)] at c1 c2
    refine ⟨g, 0, l[j].2, rfl, ?_, ?_, by simpa using g1, by simpa using g2⟩
    · rw [Nat.zero_add, cell_of_row w g _ cur 28 (0, 0) hh]; simpa using c1
    · rw [Nat.zero_add, cell_of_row w g _ cur 28 (0, 0) hh]; simpa using c2
end

theorem info28 : (Try.prog.info? 28).map (fun i => (i.zero, i.size, i.bytes)) = some (some (.agg #[.string ⟨#[]⟩, .slice none 0 0]), 2, 40) := by kernel_rfl

theorem RdI.one {w : World} {v : Value} {xs : List Int} (h : RdI w v xs) : v.oneCell' = true := by
  obtain ⟨A, cap, rfl, _⟩ := h; rfl

/-- append of workers onto a row of the call's own -/
theorem run_appW (w : World) (ty B : Nat) (v : Value) (l ys : List EW) (A : Option Addr) (c : Nat) (hown : OwnW B w v l) (hsrc : SrcW w A ys) (hgood : GoodW w ys)
    (hlen : l.length + ys.length ≤ 1000) (hbase : B ≤ w.heap.size) (hne : ys ≠ [] ∨ ∃ b o, A = some ⟨b, o, none⟩) :
    ∃ A' cap w', (Builtin.append_ #[22, 22] ty #[v, .slice A ys.length c]).run Try.prog w = .ok (.slice A' (l.length + ys.length) cap) w' ∧ OwnW B w' (.slice A' (l.length + ys.length) cap) (l ++ ys) ∧ w.grownBy w' v.ownBlock := by
  obtain ⟨i, hi, hz0, hz1, hz2⟩ := info_parts info28
  have hAd : ∃ b o, A = some ⟨b, o, none⟩ := by
    rcases hne with h | h
    · obtain ⟨b, o, e, _⟩ := hsrc 0 (List.length_pos_iff.2 h)
      exact ⟨b, o, e⟩
    · exact h
  obtain ⟨b, o, rfl⟩ := hAd
  have hcells : ∀ j u, (cellsW ys)[j]? = some u → w.cell? ((⟨b, o, none⟩ : Addr).add j) = some u := by
    intro j u hu
    have hj : j < ys.length * 2 := by
      have := (List.getElem?_eq_some_iff.1 hu).1
      rwa [cellsW_len] at this
    obtain ⟨c1, c2⟩ := cellsW_get ys (j / 2) (by omega)
    obtain ⟨b', o', e, h1, h2⟩ := hsrc (j / 2) (by omega)
    obtain ⟨rfl, rfl⟩ : b = b' ∧ o = o' := by simpa using e
    rw [addr_add0]
    rcases Nat.mod_two_eq_zero_or_one j with h | h
    · rw [show j / 2 * 2 = j by omega] at h1 c1
      rw [c1] at hu; rw [h1, ← hu]
    · rw [show j / 2 * 2 + 1 = j by omega] at c2
      rw [show o + j / 2 * 2 + 1 = o + j by omega] at h2
      rw [c2] at hu; rw [h2, ← hu]
  have hone : ∀ u ∈ cellsW ys, u.oneCell' = true := by
    intro u hu
    unfold cellsW at hu
    rw [List.mem_flatMap] at hu
    obtain ⟨x, hx, hu⟩ := hu
    simp only [List.mem_cons, List.not_mem_nil, or_false] at hu
    rcases hu with rfl | rfl
    · rfl
    · exact (hgood x hx).1.one
  obtain ⟨v', w', hr, h2, h3, _, _⟩ := run_append_own_at (P := Try.prog) w B 22 ty 28 i (.agg #[.string ⟨#[]⟩, .slice none 0 0]) 2 40 Try.underlying22 hi hz0 hz1 hz2 rfl (by decide) v l.length _ hown ⟨b, o, none⟩ ys.length c (cellsW ys) (cellsW_len ys) hcells hone
    (by simp only [maxLen]; omega) (by omega) hbase
  have ho : OwnW B w' v' (l ++ ys) := by unfold OwnW; rw [List.length_append, cellsW_app]; exact h2
  obtain ⟨A', cap, rfl⟩ := ho.slice
  rw [List.length_append] at ho hr
  exact ⟨A', cap, w', hr, ho, h3⟩

theorem wp_appW {o : Oper} {a : Act} {w : World} {K : Act → World → Prop} {Q : Exit → Act → World → Prop} (s x : Operand) (ho : o.op = .call { callee := .builtin .append, args := #[s, x], argTypes := #[22, 22] })
    (B : Nat) (v : Value) (l ys : List EW) (A : Option Addr) (c : Nat) (hs : a.eval s = v) (hown : OwnW B w v l) (hx : a.eval x = .slice A ys.length c) (hsrc : SrcW w A ys) (hgood : GoodW w ys)
    (hlen : l.length + ys.length ≤ 1000) (hbase : B ≤ w.heap.size) (hne : ys ≠ [] ∨ ∃ b o, A = some ⟨b, o, none⟩)
    (h : ∀ A' cap w', OwnW B w' (.slice A' (l.length + ys.length) cap) (l ++ ys) → w.grownBy w' v.ownBlock → K (a.put o.dst (.slice A' (l.length + ys.length) cap)) w') : Oper.wp Try.prog o a w K Q := by
  obtain ⟨A', cap, w', hr, h1, h2⟩ := run_appW w o.type B v l ys A c hown hsrc hgood hlen hbase hne
  unfold Oper.wp execOp
  simp only [ho, resolve, invoke, builtin, Sem.run_bind, Sem.run_pure, Result.andThen_ok, List.map_toArray, List.map_cons, List.map_nil, hs, hx, hr]
  exact h A' cap w' h1 h2

set_option maxRecDepth 100000 in
theorem run_appL (w : World) (ty B : Nat) (v : Value) (l ys : List Int) (A : Option Addr) (c : Nat) (hown : OwnL .i64 3 B w v l)
    (hc : ∀ j (h : j < ys.length), ∃ b o, A = some ⟨b, o, none⟩ ∧ w.cell? ⟨b, o + j, none⟩ = some (.int .i64 ys[j])) (hlen : l.length + ys.length ≤ 1000) (hbase : B ≤ w.heap.size) :
    ∃ A' cap w', (Builtin.append_ #[26, 26] ty #[v, .slice A ys.length c]).run Try.prog w = .ok (.slice A' (l.length + ys.length) cap) w' ∧ OwnL .i64 3 B w' (.slice A' (l.length + ys.length) cap) (l ++ ys) ∧ w.grownBy w' v.ownBlock := by
  obtain ⟨i, hi, hz0, hz1, hz2⟩ := info_parts info3
  have key : ∃ v' w', (Builtin.append_ #[26, 26] ty #[v, .slice A ys.length c]).run Try.prog w = .ok v' w' ∧ OwnL .i64 3 B w' v' (l ++ ys) ∧ w.grownBy w' v.ownBlock := by
    rcases A with _ | ad
    · have h0 : ys = [] := by
        rcases ys with _ | ⟨y, r⟩
        · rfl
        · obtain ⟨b, o, e, _⟩ := hc 0 (by simp)
          cases e
      subst h0
      exact ⟨v, w, run_append_of_none w B 26 ty 3 i 1 Try.underlying26 hi v l.length _ hown c, by simpa using hown, ⟨rfl, rfl, rfl, Nat.le_refl _, fun _ _ _ => rfl⟩⟩
    · have hcells : ∀ j u, (ys.map (Value.int .i64))[j]? = some u → w.cell? (ad.add j) = some u := by
        intro j u hu
        rw [List.getElem?_map] at hu
        rcases Nat.lt_or_ge j ys.length with hj | hj
        · obtain ⟨b, o, e, hcc⟩ := hc j hj
          injection e with e
          subst e
          rw [List.getElem?_eq_getElem hj] at hu
          simp at hu
          subst hu
          rw [addr_add0]; exact hcc
        · rw [List.getElem?_eq_none hj] at hu; cases hu
      obtain ⟨v', w', hr, h2, h3, _, _⟩ := run_append_own_at (P := Try.prog) w B 26 ty 3 i (.int .i64 0) 1 8 Try.underlying26 hi hz0 hz1 hz2 rfl (by decide) v l.length _ hown ad ys.length c (ys.map (Value.int .i64)) (by simp) hcells
        (by intro u hu; simp at hu; obtain ⟨y, _, rfl⟩ := hu; rfl) (by simp only [maxLen]; omega) (by omega) hbase
      exact ⟨v', w', hr, by unfold OwnL; simpa using h2, h3⟩
  obtain ⟨v', w', hr, ho2, hg⟩ := key
  obtain ⟨A', cap, rfl⟩ := ho2.slice
  rw [List.length_append] at ho2 hr
  exact ⟨A', cap, w', hr, ho2, hg⟩

/-- the same of numbers -/
theorem wp_appL {o : Oper} {a : Act} {w : World} {K : Act → World → Prop} {Q : Exit → Act → World → Prop} (s x : Operand) (ho : o.op = .call { callee := .builtin .append, args := #[s, x], argTypes := #[26, 26] })
    (B : Nat) (v : Value) (l ys : List Int) (A : Option Addr) (c : Nat) (hs : a.eval s = v) (hown : OwnL .i64 3 B w v l) (hx : a.eval x = .slice A ys.length c)
    (hc : ∀ j (h : j < ys.length), ∃ b o, A = some ⟨b, o, none⟩ ∧ w.cell? ⟨b, o + j, none⟩ = some (.int .i64 ys[j])) (hlen : l.length + ys.length ≤ 1000) (hbase : B ≤ w.heap.size)
    (h : ∀ A' cap w', OwnL .i64 3 B w' (.slice A' (l.length + ys.length) cap) (l ++ ys) → w.grownBy w' v.ownBlock → K (a.put o.dst (.slice A' (l.length + ys.length) cap)) w') : Oper.wp Try.prog o a w K Q := by
  obtain ⟨A', cap, w', hr, h1, h2⟩ := run_appL w o.type B v l ys A c hown hc hlen hbase
  unfold Oper.wp execOp
  simp only [ho, resolve, invoke, builtin, Sem.run_bind, Sem.run_pure, Result.andThen_ok, List.map_toArray, List.map_cons, List.map_nil, hs, hx, hr]
  exact h A' cap w' h1 h2
end Go.Proofs.Ythfcllefmeoicaa
