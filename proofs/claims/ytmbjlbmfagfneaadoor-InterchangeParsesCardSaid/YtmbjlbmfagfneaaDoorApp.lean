/- Rows of texts and of places that a call makes itself: append onto them, also in a region that draws its order. -/
import Derived.Test.YtmbjlbmfagfneaaDoorRdh
import Derived.Deep.RegionLaw
namespace Go.Proofs.YtmbjlbmfagfneaaDoor
open Go Go.RowKit

/-- The slice value v owns these texts, in a row of its own from block B on. -/
def OwnS (B : Nat) (w : World) (v : Value) (l : List ByteArray) : Prop := w.ownsRow B 9 1 v l.length (l.map Value.string)
section
variable {B : Nat} {w w' w0 : World} {v : Value} {l : List ByteArray}
theorem OwnS.nil (B : Nat) (w : World) : OwnS B w (.slice none 0 0) [] := World.ownsRow_nil w B 9 1
theorem OwnS.empty (w : World) : OwnS w.heap.size (w.alloc (.cells #[] 9)) (.slice (some ⟨w.heap.size, 0, none⟩) 0 0) [] :=
  ⟨rfl, .inr ⟨w.heap.size, 0, #[], rfl, Nat.le_refl _, heap_alloc_new w _, Nat.le_refl _, by simp [maxLen], rfl, rfl⟩⟩
theorem OwnS.base (h : OwnS B w v l) : ∀ g, v.ownBlock = some g → B ≤ g := fun g hg => (World.ownsRow.lt h g hg).1
theorem OwnS.slice (h : OwnS B w v l) : ∃ A cap, v = .slice A l.length cap := by
  rcases h.2 with ⟨rfl, h0⟩ | ⟨g, cap, cur, rfl, _⟩
  · exact ⟨none, 0, by rw [h0]⟩
  · exact ⟨_, _, rfl⟩
theorem OwnS.alloc (h : OwnS B w v l) (o : Obj) : OwnS B (w.alloc o) v l := World.ownsRow.alloc h o
theorem OwnS.ext (h : OwnS B w v l) (he : Ext w w') : OwnS B w' v l := by
  refine World.ownsRow.kept h (row := none) ⟨he.below.os, he.below.tape, he.below.output, he.size, fun i hi _ => he.below.block i hi⟩ ?_
  cases v.ownBlock <;> simp
theorem OwnS.extGrown (h : OwnS B w v l) (hX : Ext w0 w) (hB : w0.heap.size ≤ B) (hg : w.grownBy w' v.ownBlock) : Ext w0 w' :=
  hX.grown hg (fun g hgg => Nat.le_trans hB (h.base g hgg))
theorem OwnS.rdS (h : OwnS B w v l) : RdS w v l := by
  rcases h.2 with ⟨rfl, h0⟩ | ⟨g, cap, cur, rfl, _, hh, hn, hm, hs, ht⟩
  · exact ⟨none, 0, by rw [h0], by omega, by simp [maxLen], fun j hj => absurd hj (by omega)⟩
  · refine ⟨_, cap, rfl, hn, hm, fun j hj => ⟨g, 0, rfl, ?_⟩⟩
    rw [Nat.zero_add, cell_of_row w g j cur 9 (0, 0) hh]
    have h1 : (cur.toList.take (l.length * 1))[j]? = some (.string l[j]) := by rw [ht]; simp [hj]
    rw [List.getElem?_take, if_pos (by omega)] at h1
    simpa using h1
end

theorem info9 : (Tryd.prog.info? 9).map (fun i => (i.zero, i.size, i.bytes)) = some (some (.string ⟨#[]⟩), 1, 16) := by kernel_rfl
theorem info46 : (Tryd.prog.info? 46).map (fun i => (i.zero, i.size, i.bytes)) = some (some (.agg #[.int .i64 0, .int .i64 0, .int .i64 0, .bool false, .int .i64 0, .int .i64 0, .int .i64 0]), 7, 56) := by kernel_rfl

/-- the row from A on holds these texts -/
def SrcS (w : World) (A : Option Addr) (l : List ByteArray) : Prop := ∀ j (h : j < l.length), ∃ b o, A = some ⟨b, o, none⟩ ∧ w.cell? ⟨b, o + j, none⟩ = some (.string l[j])
theorem SrcS.ext {w w' : World} {A : Option Addr} {l : List ByteArray} (h : SrcS w A l) (he : Ext w w') : SrcS w' A l := fun j hj => by
  obtain ⟨b, o, e, h1⟩ := h j hj
  exact ⟨b, o, e, he.cell h1⟩

set_option maxRecDepth 100000 in
theorem run_appS (w : World) (ty B : Nat) (v : Value) (l ys : List ByteArray) (A : Option Addr) (c : Nat) (hown : OwnS B w v l) (hc : SrcS w A ys) (hlen : l.length + ys.length ≤ 1099511627776) (hbase : B ≤ w.heap.size) :
    ∃ A' cap w', (Builtin.append_ #[68, 68] ty #[v, .slice A ys.length c]).run Tryd.prog w = .ok (.slice A' (l.length + ys.length) cap) w' ∧ OwnS B w' (.slice A' (l.length + ys.length) cap) (l ++ ys) ∧ w.grownBy w' v.ownBlock := by
  obtain ⟨i, hi, hz0, hz1, hz2⟩ := info_parts info9
  have key : ∃ v' w', (Builtin.append_ #[68, 68] ty #[v, .slice A ys.length c]).run Tryd.prog w = .ok v' w' ∧ OwnS B w' v' (l ++ ys) ∧ w.grownBy w' v.ownBlock := by
    rcases A with _ | ad
    · have h0 : ys = [] := by
        rcases ys with _ | ⟨y, r⟩
        · rfl
        · obtain ⟨b, o, e, _⟩ := hc 0 (by simp)
          cases e
      subst h0
      exact ⟨v, w, run_append_of_none w B 68 ty 9 i 1 Tryd.underlying68 hi v l.length _ hown c, by simpa using hown, ⟨rfl, rfl, rfl, Nat.le_refl _, fun _ _ _ => rfl⟩⟩
    · have hcells : ∀ j u, (ys.map Value.string)[j]? = some u → w.cell? (ad.add j) = some u := by
        intro j u hu
        rw [List.getElem?_map] at hu
        rcases Nat.lt_or_ge j ys.length with hj | hj
        · obtain ⟨b, o, e, hcc⟩ := hc j hj
          injection e with e
          subst e
          rw [List.getElem?_eq_getElem hj] at hu
          simp at hu
          subst hu
          rw [addr_add0]; exact hcc
        · rw [List.getElem?_eq_none hj] at hu; cases hu
      obtain ⟨v', w', hr, h2, h3, _, _⟩ := run_append_own_at (P := Tryd.prog) w B 68 ty 9 i (.string ⟨#[]⟩) 1 16 Tryd.underlying68 hi hz0 hz1 hz2 rfl (by decide) v l.length _ hown ad ys.length c (ys.map Value.string) (by simp) hcells
        (by intro u hu; simp at hu; obtain ⟨y, _, rfl⟩ := hu; rfl) (by simp only [maxLen]; omega) (by omega) hbase
      exact ⟨v', w', hr, by unfold OwnS; simpa using h2, h3⟩
  obtain ⟨v', w', hr, ho2, hg⟩ := key
  obtain ⟨A', cap, rfl⟩ := ho2.slice
  rw [List.length_append] at ho2 hr
  exact ⟨A', cap, w', hr, ho2, hg⟩

/-- append of texts, as one step of a region -/
theorem wp_appS {o : Oper} {a : Act} {w : World} {K : Act → World → Prop} {Q : Exit → Act → World → Prop} (s x : Operand) (ho : o.op = .call { callee := .builtin .append, args := #[s, x], argTypes := #[68, 68] })
    (B : Nat) (v : Value) (l ys : List ByteArray) (A : Option Addr) (c : Nat) (hs : a.eval s = v) (hown : OwnS B w v l) (hx : a.eval x = .slice A ys.length c)
    (hc : SrcS w A ys) (hlen : l.length + ys.length ≤ 1099511627776) (hbase : B ≤ w.heap.size)
    (h : ∀ A' cap w', OwnS B w' (.slice A' (l.length + ys.length) cap) (l ++ ys) → w.grownBy w' v.ownBlock → K (a.put o.dst (.slice A' (l.length + ys.length) cap)) w') : Oper.wp Tryd.prog o a w K Q := by
  obtain ⟨A', cap, w', hr, h1, h2⟩ := run_appS w o.type B v l ys A c hown hc hlen hbase
  unfold Oper.wp execOp
  simp only [ho, resolve, invoke, builtin, Sem.run_bind, Sem.run_pure, Result.andThen_ok, List.map_toArray, List.map_cons, List.map_nil, hs, hx, hr]
  exact h A' cap w' h1 h2

theorem plC_one (p : Pl) : ∀ u ∈ plC p, u.oneCell' = true := by
  intro u hu
  simp only [plC, List.mem_cons, List.not_mem_nil, or_false] at hu
  rcases hu with rfl | rfl | rfl | rfl | rfl | rfl | rfl <;> rfl

/-- append of one place, as one step of a region -/
theorem wp_appP {o : Oper} {a : Act} {w : World} {K : Act → World → Prop} {Q : Exit → Act → World → Prop} (s x : Operand) (ho : o.op = .call { callee := .builtin .append, args := #[s, x], argTypes := #[25, 25] })
    (B : Nat) (v : Value) (l : List Pl) (p : Pl) (g : Nat) (c : Nat) (hs : a.eval s = v) (hown : OwnP B w v l) (hx : a.eval x = .slice (some ⟨g, 0, none⟩) 1 c)
    (hc : Blk w g 46 (plC p).toArray) (hlen : l.length ≤ 1000000) (hbase : B ≤ w.heap.size)
    (h : ∀ A' cap w', OwnP B w' (.slice A' (l.length + 1) cap) (l ++ [p]) → w.grownBy w' v.ownBlock → K (a.put o.dst (.slice A' (l.length + 1) cap)) w') : Oper.wp Tryd.prog o a w K Q := by
  obtain ⟨i, hi, hz0, hz1, hz2⟩ := info_parts info46
  have hcells : ∀ j u, (plC p)[j]? = some u → w.cell? ((⟨g, 0, none⟩ : Addr).add j) = some u := by
    intro j u hu
    rw [addr_add0, Nat.zero_add, hc.cell]; simpa using hu
  obtain ⟨v', w', hr, h2, h3, _, _⟩ := run_append_own_at (P := Tryd.prog) w B 25 o.type 46 i (.agg #[.int .i64 0, .int .i64 0, .int .i64 0, .bool false, .int .i64 0, .int .i64 0, .int .i64 0]) 7 56 Tryd.underlying25 hi hz0 hz1 hz2 rfl (by decide) v l.length _ hown ⟨g, 0, none⟩ 1 c (plC p) rfl hcells
    (plC_one p) (by simp only [maxLen]; omega) (by omega) hbase
  have ho2 : OwnP B w' v' (l ++ [p]) := by
    unfold OwnP
    rw [List.length_append, cellsP_app]
    simpa [cellsP] using h2
  obtain ⟨A', cap, rfl⟩ := ho2.slice
  rw [List.length_append] at ho2 hr
  simp only [List.length_singleton] at ho2 hr
  unfold Oper.wp execOp
  simp only [ho, resolve, invoke, builtin, Sem.run_bind, Sem.run_pure, Result.andThen_ok, List.map_toArray, List.map_cons, List.map_nil, hs, hx, hr]
  exact h A' cap w' ho2 h3

end Go.Proofs.YtmbjlbmfagfneaaDoor
