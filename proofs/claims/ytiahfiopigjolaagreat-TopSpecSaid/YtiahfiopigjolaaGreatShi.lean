/- Contract of shirt: the style of the example. -/
import Derived.Test.YtiahfiopigjolaaGreatSid
import Derived.Deep.MidRow
namespace Go.Proofs.YtiahfiopigjolaaGreat
open Go Go.RowKit

theorem cells_far {g h : Nat} {t : TypeId} {cs : Array Value} (hne : h ≠ g) : ∀ (vs : List Value) (o : Nat) (w : World), Blk w h t cs → Blk (w.setCells g o vs) h t cs
  | [], _, _, hb => hb
  | v :: r, o, _, hb => cells_far hne r (o + 1) _ (hb.far (p := ⟨g, o, none⟩) hne v)
theorem cells_cell {g h : Nat} (hne : h ≠ g) (o : Nat) : ∀ (vs : List Value) (i : Nat) (w : World), (w.setCells g i vs).cell? ⟨h, o, none⟩ = w.cell? ⟨h, o, none⟩
  | [], _, _ => rfl
  | v :: r, i, w => (cells_cell hne o r (i + 1) _).trans (World.cell?_setCell_other w ⟨g, i, none⟩ ⟨h, o, none⟩ v (fun e => hne (congrArg Addr.block e).symm))
theorem cells_ext {g : Nat} {w0 : World} (hg : w0.heap.size ≤ g) : ∀ (vs : List Value) (o : Nat) (w : World), Ext w0 w → Ext w0 (w.setCells g o vs)
  | [], _, _, h => h
  | v :: r, o, _, h => cells_ext hg r (o + 1) _ (h.setCell (p := ⟨g, o, none⟩) hg v)
theorem cells_blk {g : Nat} {t : TypeId} : ∀ (vs : List Value) (o : Nat) (w : World) (cs : Array Value), Blk w g t cs → o + vs.length ≤ cs.size →
    ∃ ds, Blk (w.setCells g o vs) g t ds ∧ ds.size = cs.size ∧ (∀ i, i < o ∨ o + vs.length ≤ i → ds[i]? = cs[i]?) ∧ ∀ j (h : j < vs.length), ds[o + j]? = some vs[j]
  | [], _, w, cs, h, _ => ⟨cs, h, rfl, fun _ _ => rfl, fun j hj => absurd hj (by simp)⟩
  | v :: r, o, w, cs, h, hl => by
    simp only [List.length_cons] at hl
    obtain ⟨ds, h1, h2, h3, h4⟩ := cells_blk r (o + 1) (w.setCell ⟨g, o, none⟩ v) _ (h.set_ o v) (by simp; omega)
    refine ⟨ds, h1, by simpa using h2, fun i hi => ?_, fun j hj => ?_⟩
    · simp only [List.length_cons] at hi
      rw [h3 i (by omega), Array.getElem?_setIfInBounds_ne (by omega)]
    · rcases j with _ | j
      · rw [Nat.add_zero, h3 o (by omega), Array.getElem?_setIfInBounds_self_of_lt (by omega)]; rfl
      · have := h4 j (by simpa using hj)
        rw [show o + (j + 1) = o + 1 + j by omega, this]; rfl
theorem cells_all {g : Nat} {t : TypeId} {w : World} {cs : Array Value} (h : Blk w g t cs) (vs : List Value) (hs : cs.size = vs.length) : Blk (w.setCells g 0 vs) g t vs.toArray := by
  obtain ⟨ds, h1, h2, _, h4⟩ := cells_blk vs 0 w cs h (by omega)
  have : ds = vs.toArray := by
    apply Array.ext
    · simp; omega
    · intro i hi1 hi2
      have := h4 i (by simpa using hi2)
      rw [Nat.zero_add, Array.getElem?_eq_getElem hi1] at this
      simpa using Option.some.inj this
  rw [← this]; exact h1
theorem cells_there {g : Nat} {t : TypeId} {w : World} {cs : Array Value} (h : Blk w g t cs) (n : Nat) (hn : n ≤ cs.size) : w.there g 0 n := fun j hj => by
  rw [Nat.zero_add, h.cell]
  exact ⟨by simp; omega, h.frozen j⟩
/-- a whole value stored into a block that is known -/
theorem wpList_store_all {P : Program} {ops : Array Oper} {rest : List Oper} {op : Oper} {a : Act} {w : World} {Q : Exit → Act → World → Prop} (hgd : op.guard = none) (ty : TypeId) (x y : Operand) (ho : op.op = .store ty x y)
    (g : Nat) (t : TypeId) (cs0 cs : Array Value) (hx : a.eval x = .pointer (some ⟨g, 0, none⟩)) (hy : a.eval y = .agg cs) (hb : Blk w g t cs0) (hs : cs0.size = cs.size)
    (hi : (P.info? ty).map (·.size) = some cs.size) (h1 : cs.all (·.oneCell') = true)
    (h : ∀ w', Blk w' g t cs → (∀ h t' ds, h ≠ g → Blk w h t' ds → Blk w' h t' ds) → (∀ h o, h ≠ g → w'.cell? ⟨h, o, none⟩ = w.cell? ⟨h, o, none⟩) → (∀ w0 : World, w0.heap.size ≤ g → Ext w0 w → Ext w0 w') → wpList P ops Q rest (a.put op.dst undef) w') : wpList P ops Q (op :: rest) a w :=
  wpList_store_mid hgd ty x y ho g 0 cs hx hy (cells_there hb _ (by omega)) hi h1
    (h _ (by have := cells_all hb cs.toList (by simpa using hs); simpa using this) (fun _ _ _ hne hb => cells_far hne _ _ _ hb) (fun _ o hne => cells_cell hne o _ _ _) (fun _ hg he => cells_ext hg _ _ _ he))

/-- some style of the example in memory -/
def ShOut (w : World) (e : Ending) (w' : World) : Prop := ∃ v1 v2 v3 v4 v5 v6, e = .returned (.agg (stC exStyle v1 v2 v3 v4 v5 v6).toArray) ∧ StR w' exStyle v1 v2 v3 v4 v5 v6 ∧ Ext w w'
theorem info_style : (Tryz.prog.info? 29).map (·.size) = some 7 := by kernel_rfl
theorem one_style {v1 v2 v3 v4 : Value} (h1 : v1.oneCell' = true) (h2 : v2.oneCell' = true) (h3 : v3.oneCell' = true) (h4 : v4.oneCell' = true) : (#[Value.string bShirt, v1, v2, v3, v4, .slice none 0 0, .slice none 0 0]).all (·.oneCell') = true := by
  simp only [List.all_toArray, List.all_cons, List.all_nil, h1, h2, h3, h4, Bool.and_true, Bool.true_and]
  rfl
theorem rd_spots4 {w : World} {g : Nat} (h : Blk w g 66 #[.int .i64 0, .int .i64 0, .int .i64 1, .int .i64 0, .int .i64 1, .int .i64 0, .int .i64 0, .int .i64 0]) : RdL 2 spP w (.slice (some ⟨g, 0, none⟩) 4 4) exPiece.corners := by
  refine ⟨_, 4, rfl, by decide, by decide, fun j hj => ⟨g, 0, spC (exPiece.corners[j]), rfl, rfl, rfl, fun i hi => ?_⟩⟩
  have hj : j < 4 := hj
  rw [h.cell]
  match j, hj, i, hi with
  | 0, _, 0, _ => rfl
  | 0, _, 1, _ => rfl
  | 1, _, 0, _ => rfl
  | 1, _, 1, _ => rfl
  | 2, _, 0, _ => rfl
  | 2, _, 1, _ => rfl
  | 3, _, 0, _ => rfl
  | 3, _, 1, _ => rfl
theorem rd_widths {w : World} {g : Nat} (h : Blk w g 3 #[.int .i64 0, .int .i64 1, .int .i64 0, .int .i64 0]) : RdL 1 inP w (.slice (some ⟨g, 0, none⟩) 4 4) exPiece.widths := by
  refine ⟨_, 4, rfl, by decide, by decide, fun j hj => ⟨g, 0, [.int .i64 (exPiece.widths[j])], rfl, rfl, rfl, fun i hi => ?_⟩⟩
  have hj : j < 4 := hj
  rw [h.cell]
  match j, hj, i, hi with
  | 0, _, 0, _ => rfl
  | 1, _, 0, _ => rfl
  | 2, _, 0, _ => rfl
  | 3, _, 0, _ => rfl
theorem rd_sizes {w : World} {g : Nat} (h : Blk w g 9 #[.string bS, .string bM]) : RdL 1 stP w (.slice (some ⟨g, 0, none⟩) 2 2) exStyle.sizes := by
  refine ⟨_, 2, rfl, by decide, by decide, fun j hj => ?_⟩
  have hj : j < 2 := hj
  match j, hj with
  | 0, _ => exact ⟨g, 0, [.string bS], rfl, ⟨rfl, by show bS.size ≤ maxLen; decide⟩, rfl, fun i hi => by rw [h.cell]; match i, hi with
    | 0, _ => rfl⟩
  | 1, _ => exact ⟨g, 0, [.string bM], rfl, ⟨rfl, by show bM.size ≤ maxLen; decide⟩, rfl, fun i hi => by rw [h.cell]; match i, hi with
    | 0, _ => rfl⟩
theorem rd_mults {w : World} {g : Nat} (h : Blk w g 3 #[.int .i64 0, .int .i64 2]) : RdL 1 inP w (.slice (some ⟨g, 0, none⟩) 2 2) exStyle.mults := by
  refine ⟨_, 2, rfl, by decide, by decide, fun j hj => ⟨g, 0, [.int .i64 (exStyle.mults[j])], rfl, rfl, rfl, fun i hi => ?_⟩⟩
  have hj : j < 2 := hj
  rw [h.cell]
  match j, hj, i, hi with
  | 0, _, 0, _ => rfl
  | 1, _, 0, _ => rfl
theorem rd_uses {w : World} {g : Nat} (h : Blk w g 58 #[.int .i64 0, .int .i64 1, .bool false]) : RdL 3 usP w (.slice (some ⟨g, 0, none⟩) 1 1) exStyle.uses := by
  refine ⟨_, 1, rfl, by decide, by decide, fun j hj => ⟨g, 0, [.int .i64 0, .int .i64 1, .bool false], rfl, ?_, rfl, fun i hi => ?_⟩⟩
  · have hj : j < 1 := hj
    obtain rfl : j = 0 := by omega
    rfl
  · have hj : j < 1 := hj
    obtain rfl : j = 0 := by omega
    rw [h.cell]
    match i, hi with
    | 0, _ => rfl
    | 1, _ => rfl
    | 2, _ => rfl
theorem rd_pieces {w : World} {g : Nat} {v1 v3 v4 : Value} (h : Blk w g 44 #[.string bFront, v1, .int .i64 2, .slice none 0 0, v3, v4, .bool false]) (h1 : RdL 2 edP w v1 exEdges) (h3 : RdL 2 spP w v3 exPiece.corners) (h4 : RdL 1 inP w v4 exPiece.widths) : RdL 7 pcP w (.slice (some ⟨g, 0, none⟩) 1 1) exStyle.pieces := by
  refine ⟨_, 1, rfl, by decide, by decide, fun j hj => ⟨g, 0, pcC exPiece v1 (.slice none 0 0) v3 v4, rfl, ?_, rfl, fun i hi => ?_⟩⟩
  · have hj : j < 1 := hj
    obtain rfl : j = 0 := by omega
    exact ⟨v1, .slice none 0 0, v3, v4, rfl, ⟨h1, RdL.nil _ _ _, h3, h4, by show bFront.size ≤ maxLen; decide⟩⟩
  · have hj : j < 1 := hj
    obtain rfl : j = 0 := by omega
    rw [h.cell]
    match i, hi with
    | 0, _ => rfl
    | 1, _ => rfl
    | 2, _ => rfl
    | 3, _ => rfl
    | 4, _ => rfl
    | 5, _ => rfl
    | 6, _ => rfl

def zSt : Array Value := #[.string ⟨#[]⟩, .slice none 0 0, .slice none 0 0, .slice none 0 0, .slice none 0 0, .slice none 0 0, .slice none 0 0]
theorem zero_cell {w : World} {g o : Nat} {u : Value} (hz : Blk w g 29 zSt) (h : w.cell? ⟨g, o, none⟩ = some u) : u = .string ⟨#[]⟩ ∨ u = .slice none 0 0 := by
  rw [hz.cell] at h
  have := Array.mem_of_getElem? h
  unfold zSt at this
  simp at this
  exact this
/-- spots and edges do not lie in a style's block that is not yet filled -/
theorem sp_keep {w W : World} {g : Nat} (hz : Blk w g 29 zSt) (hk : ∀ b o, b ≠ g → b < w.heap.size → W.cell? ⟨b, o, none⟩ = w.cell? ⟨b, o, none⟩) {v : Value} {l : List Sp} (h : RdL 2 spP w v l) : RdL 2 spP W v l := by
  obtain ⟨A, cap, rfl, h1, h2, h3⟩ := h
  refine ⟨A, cap, rfl, h1, h2, fun j hj => ?_⟩
  obtain ⟨b, o, cs, rfl, hp, hl, hc⟩ := h3 j hj
  refine ⟨b, o, cs, rfl, hp, hl, fun i hi => ?_⟩
  have h0 := hc 0 (by omega)
  have hp' : cs = spC l[j] := hp
  have hne : b ≠ g := fun e => by
    subst e
    rw [hp'] at h0
    rcases zero_cell hz (h0.trans rfl) with e | e <;> cases e
  have hlt : b < w.heap.size := World.block_lt_of_cell? w ⟨b, o + j * 2 + 0, none⟩ (u := (.int .i64 l[j].x)) (by rw [h0, hp']; rfl)
  rw [hk b _ hne hlt]
  exact hc i hi
theorem ed_keep {w W : World} {g : Nat} (hz : Blk w g 29 zSt) (hk : ∀ b o, b ≠ g → b < w.heap.size → W.cell? ⟨b, o, none⟩ = w.cell? ⟨b, o, none⟩) {v : Value} {l : List Ed} (hn : ∀ j (h : j < l.length), l[j].name.size ≠ 0) (h : RdL 2 edP w v l) : RdL 2 edP W v l := by
  obtain ⟨A, cap, rfl, h1, h2, h3⟩ := h
  refine ⟨A, cap, rfl, h1, h2, fun j hj => ?_⟩
  obtain ⟨b, o, cs, rfl, ⟨u, hp, hr, hs⟩, hl, hc⟩ := h3 j hj
  refine ⟨b, o, cs, rfl, ⟨u, hp, sp_keep hz hk hr, hs⟩, hl, fun i hi => ?_⟩
  have h0 := hc 0 (by omega)
  have hne : b ≠ g := fun e => by
    subst e
    rw [hp] at h0
    rcases zero_cell hz (h0.trans rfl) with e | e
    · injection e with e
      exact hn j hj (by rw [e]; rfl)
    · cases e
  have hlt : b < w.heap.size := World.block_lt_of_cell? w ⟨b, o + j * 2 + 0, none⟩ (u := (.string l[j].name)) (by rw [h0, hp]; rfl)
  rw [hk b _ hne hlt]
  exact hc i hi
theorem ex_names : ∀ j (h : j < exEdges.length), exEdges[j].name.size ≠ 0 := by decide +kernel

set_option maxRecDepth 100000 in
set_option maxHeartbeats 4000000 in
theorem c_shirt (w : World) : Calls Tryz.prog 17 #[] w (ShOut w) := by
  have hcs := Lib.hid (fun w => c_sides w)
  go_enter Tryz.func17, Tryz.ntmps17
  go_wp2_with fail
  refine (hcs.out _).mono ?_
  rintro e w1 ⟨v, rfl, hr, hx⟩
  have hP := Lib.hid ((Blk.new w 29 #[.string ⟨#[]⟩, .slice none 0 0, .slice none 0 0, .slice none 0 0, .slice none 0 0, .slice none 0 0, .slice none 0 0]).ext hx)
  have hX := Lib.hid (((Ext.refl w).alloc (.cells #[.string ⟨#[]⟩, .slice none 0 0, .slice none 0 0, .slice none 0 0, .slice none 0 0, .slice none 0 0, .slice none 0 0] 29)).trans hx)
  clear hx hcs
  obtain ⟨A, c, rfl⟩ := hr.slice
  have h4 : exEdges.length = 4 := rfl
  rw [h4] at hr ⊢
  clear h4
  replace hr := Lib.hid hr
  have lP := hP.out.lt
  go_wp2_with (first
    | ((with_reducible (show wpList _ _ _ (Oper.mk (none) (.store 29 (.tmp 0) (.tmp 16)) _ _ _ _ :: _) _ _)); refine wpList_store_all rfl 29 (.tmp 0) (.tmp 16) rfl w.heap.size 29 #[.string ⟨#[]⟩, .slice none 0 0, .slice none 0 0, .slice none 0 0, .slice none 0 0, .slice none 0 0, .slice none 0 0] _ rfl rfl (((((((hP.out.alloc _).alloc _).alloc _).alloc _).alloc _).alloc _).alloc _) rfl info_style (one_style rfl rfl rfl rfl) ?_; intro W hW hfar hcell hext; have b0 := Lib.hid (hfar _ _ _ (by omega) (((((((Blk.new w1 _ _).alloc _).alloc _).alloc _).alloc _).alloc _).alloc _)); have b1 := Lib.hid (hfar (w1.heap.size + 1) _ _ (by omega) ((((((Blk.at (by simp)).alloc _).alloc _).alloc _).alloc _).alloc _)); have b3 := Lib.hid (hfar (w1.heap.size + 1 + 1 + 1) _ _ (by omega) ((((Blk.at (by simp)).alloc _).alloc _).alloc _)); have b4 := Lib.hid (hfar (w1.heap.size + 1 + 1 + 1 + 1) _ _ (by omega) (((Blk.at (by simp)).alloc _).alloc _)); have b5 := Lib.hid (hfar (w1.heap.size + 1 + 1 + 1 + 1 + 1) _ _ (by omega) ((Blk.at (by simp)).alloc _)); have b6 := Lib.hid (hfar (w1.heap.size + 1 + 1 + 1 + 1 + 1 + 1) _ _ (by omega) (Blk.at (by simp))); have hX2 := Lib.hid (hext w (Nat.le_refl _) (((((((hX.out.alloc _).alloc _).alloc _).alloc _).alloc _).alloc _).alloc _)); have hK := Lib.hid (show ∀ b o, b ≠ w.heap.size → b < w1.heap.size → W.cell? ⟨b, o, none⟩ = w1.cell? ⟨b, o, none⟩ from fun b o hne hlt => (hcell b o hne).trans (((((((((Ext.refl w1).alloc _).alloc _).alloc _).alloc _).alloc _).alloc _).alloc _).below.cell (p := ⟨b, o, none⟩) hlt)); clear hfar hext hcell; have q7 := hW.parts7; obtain ⟨q0, q1, q2, q3, q4, q5, q6⟩ := q7; have lW := hW.lt)
    | fail)
  have hed := ed_keep hP.out hK.out ex_names hr.out
  (try simp only [Exit.inBlock, Exit.then])
  refine bodyPost_ret (v := .agg #[.string bShirt, .slice (some ⟨w1.heap.size + 1 + 1 + 1, 0, none⟩) 2 2, .slice (some ⟨w1.heap.size + 1 + 1 + 1 + 1, 0, none⟩) 2 2, .slice (some ⟨w1.heap.size + 1 + 1 + 1 + 1 + 1, 0, none⟩) 1 1, .slice (some ⟨w1.heap.size + 1 + 1 + 1 + 1 + 1 + 1, 0, none⟩) 1 1, .slice none 0 0, .slice none 0 0]) (by simp [results, Tryz.results17, go_sem, q0, q1, q2, q3, q4, q5, q6]; try rfl) rfl ?_
  refine ⟨_, _, _, _, _, _, rfl, ?_, hX2.out⟩
  exact ⟨rd_sizes b3.out, rd_mults b4.out, rd_pieces b5.out hed (rd_spots4 b0.out) (rd_widths b1.out), rd_uses b6.out, RdL.nil _ _ _, ⟨none, 0, rfl, by decide⟩, by show bShirt.size ≤ maxLen; decide⟩

end Go.Proofs.YtiahfiopigjolaaGreat
