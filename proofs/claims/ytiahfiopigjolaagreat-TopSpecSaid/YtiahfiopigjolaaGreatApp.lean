/- Append of one element inside a region that draws its order; rows and blocks that cannot meet. -/
import Derived.Test.YtiahfiopigjolaaGreatBase
import Derived.Deep.RegionLaw
namespace Go.Proofs.YtiahfiopigjolaaGreat
open Go Go.RowKit

theorem row_ne {B E sz n p : Nat} {t : TypeId} {w : World} {v : Value} {xs : List Value} {cs : Array Value} (h : w.ownsRow B E sz v n xs) (hb : Blk w p t cs) (hne : E ≠ t) : v.ownBlock ≠ some p := by
  rcases h.2 with ⟨rfl, h0⟩ | ⟨g, cap, cur, rfl, _, hh, _⟩
  · simp [Value.ownBlock]
  · intro e
    have e : g = p := by simpa [Value.ownBlock] using e
    subst e
    unfold Blk at hb
    rw [hb] at hh
    simp at hh
    exact hne hh.2.symm

theorem grown_set {w : World} (b o : Nat) (u : Value) : w.grownBy (w.setCell ⟨b, o, none⟩ u) (some b) :=
  ⟨rfl, rfl, rfl, by simp [World.setCell], fun i _ hne => Below.heap_setCell w ⟨b, o, none⟩ u i (fun e => hne (by simp [e]))⟩

/-- append of one element, as one step of a region -/
theorem wp_appE {α : Type} {P : Program} {o : Oper} {a : Act} {w : World} {K : Act → World → Prop} {Q : Exit → Act → World → Prop} (s x : Operand) (t : TypeId) (ho : o.op = .call { callee := .builtin .append, args := #[s, x], argTypes := #[t, t] })
    (E k B bytes : Nat) (z : Value) (enc : α → List Value) (ht : P.underlying t = some (.slice E)) (hinfo : (P.info? E).map (fun i => (i.zero, i.size, i.bytes)) = some (some z, k, bytes)) (hz : z.cells.size = k) (h0 : 0 < k) (hb : bytes ≤ 100)
    (hk : ∀ x, (enc x).length = k) (h1 : ∀ x, ∀ u ∈ enc x, u.oneCell' = true)
    (v : Value) (l : List α) (y : α) (g : Nat) (c : Nat) (hs : a.eval s = v) (hown : OwnE E k enc B w v l) (hx : a.eval x = .slice (some ⟨g, 0, none⟩) 1 c)
    (hc : Blk w g E (enc y).toArray) (hlen : l.length ≤ 1000000) (hbase : B ≤ w.heap.size)
    (h : ∀ A' cap w', OwnE E k enc B w' (.slice A' (l.length + 1) cap) (l ++ [y]) → w.grownBy w' v.ownBlock → K (a.put o.dst (.slice A' (l.length + 1) cap)) w') : Oper.wp P o a w K Q := by
  obtain ⟨i, hi, hz0, hz1, hz2⟩ := info_parts hinfo
  have hcells : ∀ j u, (enc y)[j]? = some u → w.cell? ((⟨g, 0, none⟩ : Addr).add j) = some u := by
    intro j u hu
    rw [addr_add0, Nat.zero_add, hc.cell]; simpa using hu
  obtain ⟨v', w', hr, h2, h3, _, _⟩ := run_append_own_at (P := P) w B t o.type E i z k bytes ht hi hz0 hz1 hz2 hz h0 v l.length _ hown ⟨g, 0, none⟩ 1 c (enc y) (by rw [hk, Nat.one_mul]) hcells
    (h1 y) (by simp only [maxLen]; omega) (by have : (l.length + 1) * bytes ≤ (l.length + 1) * 100 := Nat.mul_le_mul_left _ hb; omega) hbase
  have ho2 : OwnE E k enc B w' v' (l ++ [y]) := by
    unfold OwnE
    simpa using h2
  obtain ⟨A', cap, rfl⟩ := ho2.slice
  rw [List.length_append] at ho2 hr
  simp only [List.length_singleton] at ho2 hr
  unfold Oper.wp execOp
  simp only [ho, resolve, invoke, builtin, Sem.run_bind, Sem.run_pure, Result.andThen_ok, List.map_toArray, List.map_cons, List.map_nil, hs, hx, hr]
  exact h A' cap w' ho2 h3

theorem rows_ne {B B' E E' sz sz' n n' : Nat} {w : World} {v v' : Value} {xs xs' : List Value} (h : w.ownsRow B E sz v n xs) (h' : w.ownsRow B' E' sz' v' n' xs') (hne : E ≠ E') : v.ownBlock = none ∨ v.ownBlock ≠ v'.ownBlock := by
  rcases h.2 with ⟨rfl, h0⟩ | ⟨g, cap, cur, rfl, _, hh, _⟩
  · exact .inl rfl
  · right
    rcases h'.2 with ⟨rfl, h0⟩ | ⟨g', cap', cur', rfl, _, hh', _⟩
    · simp [Value.ownBlock]
    · intro e
      have e : g = g' := by simpa [Value.ownBlock] using e
      subst e
      rw [hh] at hh'
      simp at hh'
      exact hne hh'.2
theorem blk_of_own {k : IntKind} {E : TypeId} {B : Nat} {w : World} {g o n cap : Nat} {l : List Int} (h : OwnL k E B w (.slice (some ⟨g, o, none⟩) n cap) l) : ∃ cs, Blk w g E cs := by
  rcases h.2 with ⟨h1, _⟩ | ⟨g', cap', cur, e, _, hh, _⟩
  · injection h1 with h1; cases h1
  · injection e with e _ _
    injection e with e
    injection e with e _
    subst e
    exact ⟨cur, hh⟩
theorem keep_grown {w w' : World} {ob : Obj} {row : Option Nat} {g : Nat} (hg : (w.drew.alloc ob).grownBy w' row) (hne : row ≠ some g) (hl : g < w.heap.size) : ∀ o, w'.cell? ⟨g, o, none⟩ = w.cell? ⟨g, o, none⟩ := by
  intro o
  have h1 : w'.heap[g]? = w.heap[g]? := by
    rw [hg.block g (by have : (w.drew.alloc ob).heap.size = w.heap.size + 1 := size_alloc _ _; omega) (fun e => hne e.symm)]
    exact Below.heap_alloc w.drew ob g hl
  unfold World.cell?
  simp only [h1]

theorem grown_after {w w1 w2 : World} {row : Option Nat} (h : Ext w w1) (hg : w1.grownBy w2 row) : w.grownBy w2 row :=
  ⟨hg.os.trans h.below.os, hg.tape.trans h.below.tape, hg.output.trans h.below.output, Nat.le_trans h.size hg.size, fun i hi hne => (hg.block i (Nat.lt_of_lt_of_le hi h.size) hne).trans (h.below.block i hi)⟩
theorem le_alloc_drew {B : Nat} {w : World} {ob : Obj} (h : B ≤ w.heap.size) : B ≤ (w.alloc ob).drew.heap.size := by
  show B ≤ (w.alloc ob).heap.size
  rw [size_alloc]; omega
theorem alloc_keep {w : World} {ob : Obj} {g : Nat} (h : g < w.heap.size) (o : Nat) : (w.alloc ob).drew.cell? ⟨g, o, none⟩ = w.cell? ⟨g, o, none⟩ := by
  have h1 : (w.alloc ob).drew.heap[g]? = w.heap[g]? := Below.heap_alloc w ob g h
  unfold World.cell?
  simp only [h1]

end Go.Proofs.YtiahfiopigjolaaGreat
