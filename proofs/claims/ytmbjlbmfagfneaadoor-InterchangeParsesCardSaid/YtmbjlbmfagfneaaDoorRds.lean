/- readSizes of the program. -/
import Derived.Test.YtmbjlbmfagfneaaDoorNms
namespace Go.Proofs.YtmbjlbmfagfneaaDoor
open Go Go.RowKit

/-- the cells of a marker -/
def mkA (m : Mk) (sv pv : Value) : Array Value := #[.int .i64 m.len, .int .i64 m.wid, .int .i64 m.rx, .int .i64 m.ry, sv, pv]

theorem RdS.tail {w : World} {x : ByteArray} {r : List ByteArray} {A : Option Addr} {cap : Nat} (h : RdS w (.slice A (r.length + 1) cap) (x :: r)) :
    ∃ b o, A = some ⟨b, o, none⟩ ∧ w.cell? ⟨b, o, none⟩ = some (.string x) ∧ r.length + 1 ≤ cap ∧ cap ≤ maxLen ∧ RdS w (.slice (some ⟨b, o + 1, none⟩) r.length (cap - 1)) r := by
  obtain ⟨A', cap', e, h1, h2, h3⟩ := h
  injection e with e1 e2 e3
  subst e1; subst e3
  obtain ⟨b, o, rfl, hc⟩ := h3 0 (by simp)
  simp only [List.length_cons] at h1
  refine ⟨b, o, rfl, by simpa using hc, h1, h2, ⟨_, _, rfl, by omega, by omega, fun j hj => ⟨b, o + 1, rfl, ?_⟩⟩⟩
  obtain ⟨b', o', e, hc'⟩ := h3 (j + 1) (by simp; omega)
  injection e with e; injection e with e1 e2
  subst e1; subst e2
  rw [show o + 1 + j = o + (j + 1) by omega]
  simpa using hc'

theorem sat_in {n z lo hi : Int} (h : Sat n z) (h1 : -1048576 ≤ lo) (h2 : hi ≤ 1048576) : inR lo hi z = inR lo hi n ∧ (inR lo hi n = true → z = n) := by
  unfold inR
  rcases h with rfl | ⟨a, b⟩ | ⟨a, b⟩
  · exact ⟨rfl, fun _ => rfl⟩
  · exact ⟨by rw [decide_eq_decide]; omega, fun h => by have := of_decide_eq_true h; omega⟩
  · exact ⟨by rw [decide_eq_decide]; omega, fun h => by have := of_decide_eq_true h; omega⟩

theorem satL_all {l zs : List Int} (h : SatL l zs) {lo hi : Int} (h1 : -1048576 ≤ lo) (h2 : hi ≤ 1048576) : zs.all (inR lo hi) = l.all (inR lo hi) ∧ (l.all (inR lo hi) = true → zs = l) := by
  obtain ⟨hl, hs⟩ := h
  induction l generalizing zs with
  | nil =>
    have : zs = [] := List.length_eq_zero_iff.1 hl.symm
    subst this
    exact ⟨rfl, fun _ => rfl⟩
  | cons n l ih =>
    cases zs with
    | nil => simp at hl
    | cons z zs =>
      have h0 := sat_in (hs 0 (by simp) (by simp)) h1 h2
      have ih := ih (zs := zs) (by simpa using hl) (fun j hj hj' => by
        have := hs (j + 1) (by simp; omega) (by simp; omega)
        simpa using this)
      simp only [List.getElem_cons_zero] at h0
      rw [List.all_cons, List.all_cons, h0.1, ih.1]
      refine ⟨rfl, fun h => ?_⟩
      rw [Bool.and_eq_true] at h
      rw [h0.2 h.1, ih.2 h.2]

/-! ### The marker that is being read, in memory -/

def plC (p : Pl) : List Value := [.int .i64 p.g, .int .i64 p.u, .int .i64 p.c, .bool p.f, .int .i64 p.q, .int .i64 p.x, .int .i64 p.y]
def cellsP (l : List Pl) : List Value := l.flatMap plC
theorem cellsP_len (l : List Pl) : (cellsP l).length = l.length * 7 := by
  unfold cellsP
  induction l with
  | nil => rfl
  | cons x r ih => simp [List.flatMap_cons, ih, plC]; omega
theorem cellsP_app (l k : List Pl) : cellsP (l ++ k) = cellsP l ++ cellsP k := by unfold cellsP; rw [List.flatMap_append]
theorem cellsP_get : ∀ (l : List Pl) (j k : Nat) (h : j < l.length) (_ : k < 7), (cellsP l)[j * 7 + k]? = (plC l[j])[k]?
  | [], j, k, h, _ => absurd h (by simp)
  | x :: r, j, k, h, hk => by
    have e : cellsP (x :: r) = plC x ++ cellsP r := rfl
    have hl : (plC x).length = 7 := rfl
    rcases j with _ | j
    · rw [e, List.getElem?_append_left (by omega)]; simp
    · rw [e, List.getElem?_append_right (by omega), hl, show (j + 1) * 7 + k - 7 = j * 7 + k by omega]
      simpa using cellsP_get r j k (by simpa using h) hk

/-- The slice value v owns these places, in a row of its own from block B on. -/
def OwnP (B : Nat) (w : World) (v : Value) (l : List Pl) : Prop := w.ownsRow B 46 7 v l.length (cellsP l)
section
variable {B : Nat} {w w' w0 : World} {v : Value} {l : List Pl}
theorem OwnP.nil (B : Nat) (w : World) : OwnP B w (.slice none 0 0) [] := World.ownsRow_nil w B 46 7
theorem OwnP.base (h : OwnP B w v l) : ∀ g, v.ownBlock = some g → B ≤ g := fun g hg => (World.ownsRow.lt h g hg).1
theorem OwnP.slice (h : OwnP B w v l) : ∃ A cap, v = .slice A l.length cap := by
  rcases h.2 with ⟨rfl, h0⟩ | ⟨g, cap, cur, rfl, _⟩
  · exact ⟨none, 0, by rw [h0]⟩
  · exact ⟨_, _, rfl⟩
theorem OwnP.alloc (h : OwnP B w v l) (o : Obj) : OwnP B (w.alloc o) v l := World.ownsRow.alloc h o
theorem OwnP.kept {row : Option Nat} (h : OwnP B w v l) (hg : w.grownBy w' row) (hne : v.ownBlock = none ∨ v.ownBlock ≠ row) : OwnP B w' v l := World.ownsRow.kept h hg hne
theorem OwnP.ext (h : OwnP B w v l) (he : Ext w w') : OwnP B w' v l := by
  refine World.ownsRow.kept h (row := none) ⟨he.below.os, he.below.tape, he.below.output, he.size, fun i hi _ => he.below.block i hi⟩ ?_
  cases v.ownBlock <;> simp
theorem OwnP.rdP (h : OwnP B w v l) : RdP w v l := by
  rcases h.2 with ⟨rfl, h0⟩ | ⟨g, cap, cur, rfl, _, hh, hn, hm, hs, ht⟩
  · have : l = [] := List.length_eq_zero_iff.1 h0
    subst this
    exact RdP.nil w
  · refine ⟨some ⟨g, 0, none⟩, cap, rfl, hn, hm, fun j hj => ⟨g, 0, rfl, ?_⟩⟩
    have key : ∀ k, k < 7 → w.cell? ⟨g, 0 + j * 7 + k, none⟩ = (plC l[j])[k]? := by
      intro k hk
      rw [Nat.zero_add, cell_of_row w g _ cur 46 (0, 0) hh, ← cellsP_get l j k hj hk, ← ht, List.getElem?_take, if_pos (by omega)]
      simp
    exact ⟨key 0 (by omega), key 1 (by omega), key 2 (by omega), key 3 (by omega), key 4 (by omega), key 5 (by omega), key 6 (by omega)⟩
end

theorem row_ne {B E sz n p : Nat} {t : TypeId} {w : World} {v : Value} {xs : List Value} {cs : Array Value} (h : w.ownsRow B E sz v n xs) (hb : Blk w p t cs) (hne : E ≠ t) : v.ownBlock ≠ some p := by
  rcases h.2 with ⟨rfl, h0⟩ | ⟨g, cap, cur, rfl, _, hh, _⟩
  · simp [Value.ownBlock]
  · intro e
    have e : g = p := by simpa [Value.ownBlock] using e
    subst e
    unfold Blk at hb
    rw [hb] at hh
    simp at hh
    exact hne hh.2.symm

theorem grown_set {w : World} (b o : Nat) (u : Value) : w.grownBy (w.setCell ⟨b, o, none⟩ u) (some b) :=
  ⟨rfl, rfl, rfl, by simp [World.setCell], fun i _ hne => Below.heap_setCell w ⟨b, o, none⟩ u i (fun e => hne (by simp [e]))⟩

/-- Block p holds the marker m, whose sizes and places lie in rows from block B on. -/
def MkAt (B p : Nat) (w : World) (m : Mk) : Prop := B ≤ p ∧ ∃ sv pv, Blk w p 27 (mkA m sv pv) ∧ OwnL .i64 3 B w sv m.sizes ∧ OwnP B w pv m.places
theorem MkAt.ext {B p : Nat} {w w' : World} {m : Mk} (h : MkAt B p w m) (he : Ext w w') : MkAt B p w' m := by
  obtain ⟨h0, sv, pv, h1, h2, h3⟩ := h
  exact ⟨h0, sv, pv, h1.ext he, h2.ext he, h3.ext he⟩
theorem MkAt.zero (B : Nat) (w : World) (p : Nat) (h : B ≤ p) (hb : Blk w p 27 (mkA Mk.zero (.slice none 0 0) (.slice none 0 0))) : MkAt B p w Mk.zero :=
  ⟨h, _, _, hb, OwnL.nil _ _ _ _, OwnP.nil _ _⟩

/-- how a read of a line ends -/
def RdEnd (B p : Nat) (r : Except Int Mk) (w : World) (e : Ending) (w' : World) : Prop :=
  Below B w w' ∧ match r with
  | .error n => e = .returned (.int .i64 n)
  | .ok m' => e = .returned (.int .i64 0) ∧ MkAt B p w' m'

theorem RdEnd.err {B p : Nat} {r : Except Int Mk} {w w' : World} {n : Int} (hr : r = .error n) (hb : Below B w w') : RdEnd B p r w (.returned (.int .i64 n)) w' := by
  subst hr; exact ⟨hb, rfl⟩
theorem RdEnd.ok {B p : Nat} {r : Except Int Mk} {w w' : World} {m' : Mk} (hr : r = .ok m') (hb : Below B w w') (hm : MkAt B p w' m') : RdEnd B p r w (.returned (.int .i64 0)) w' := by
  subst hr; exact ⟨hb, rfl, hm⟩

theorem RdS.none_ (w : World) (A : Option Addr) (c : Nat) (h : c ≤ maxLen) : RdS w (.slice A 0 c) [] := ⟨A, c, rfl, by simp, h, fun j hj => absurd hj (by simp)⟩

theorem RdS.tail0 {w : World} {r : List ByteArray} {A : Option Addr} (h : r.length + 1 ≤ 1) : RdS w (.slice A r.length 0) r := by
  have : r = [] := List.length_eq_zero_iff.1 (by omega)
  subst this
  exact RdS.none_ w A 0 (by simp [maxLen])

theorem sizes_no {m : Mk} {w : B} {r : List B} (h : nums r = none) : rdSizes m w r = .error 2 := by rw [rdSizes, h]
theorem sizes_word {m : Mk} {w : B} {r : List B} (h : w ≠ Tsizes) : rdSizes m w r = .error 2 := by
  rw [rdSizes]
  split
  · rw [if_neg h]
  · rfl
theorem sizes_range {m : Mk} {w : B} {r : List B} {l : List Int} (h : w = Tsizes) (hn : nums r = some l) (ha : l.all (inR 0 1048576) = false) : rdSizes m w r = .error 3 := by
  rw [rdSizes, hn]
  show (if w = Tsizes then _ else _) = _
  rw [if_pos h, if_neg (by rw [ha]; exact Bool.false_ne_true)]
theorem sizes_long {m : Mk} {w : B} {r : List B} {l : List Int} (h : w = Tsizes) (hn : nums r = some l) (ha : l.all (inR 0 1048576) = true) (hl : 6 < l.length) : rdSizes m w r = .error 5 := by
  rw [rdSizes, hn]
  show (if w = Tsizes then _ else _) = _
  rw [if_pos h, if_pos ha, if_pos hl]
theorem sizes_ok {m : Mk} {w : B} {r : List B} {l : List Int} (h : w = Tsizes) (hn : nums r = some l) (ha : l.all (inR 0 1048576) = true) (hl : ¬ 6 < l.length) : rdSizes m w r = .ok { m with sizes := l } := by
  rw [rdSizes, hn]
  show (if w = Tsizes then _ else _) = _
  rw [if_pos h, if_pos ha, if_neg hl]

theorem word_eq {x : ByteArray} {t : B} (h : (x.toList == t) = true) : bs x = t := by
  rw [beq_iff_eq, ByteArray.toList_eq] at h; exact h
theorem word_ne {x : ByteArray} {t : B} (h : (x.toList == t) = false) : bs x ≠ t := by
  intro e
  rw [ByteArray.toList_eq] at h
  rw [show x.data.toList = t from e] at h
  simp at h

theorem OwnL.mono {k : IntKind} {E : TypeId} {B B' : Nat} {w : World} {v : Value} {l : List Int} (h : OwnL k E B w v l) (hB : B' ≤ B) : OwnL k E B' w v l := by
  refine ⟨h.1, ?_⟩
  rcases h.2 with h1 | ⟨g, cap, cur, e, hg, hr⟩
  · exact .inl h1
  · exact .inr ⟨g, cap, cur, e, Nat.le_trans hB hg, hr⟩
theorem MkAt.setSizes {B p : Nat} {w : World} {m : Mk} {v : Value} {l : List Int} (h : MkAt B p w m) (hv : OwnL .i64 3 B w v l) : MkAt B p (w.setCell ⟨p, 4, none⟩ v) { m with sizes := l } := by
  obtain ⟨h0, sv, pv, h1, h2, h3⟩ := h
  refine ⟨h0, v, pv, h1.set_ 4 v, hv.kept (grown_set p 4 v) (.inr (row_ne hv h1 (by decide))), h3.kept (grown_set p 4 v) (.inr (row_ne h3 h1 (by decide)))⟩

set_option maxHeartbeats 1000000 in
theorem c_readSizes (B : Nat) (m : Mk) (p : Nat) (v : Value) (x : ByteArray) (r : List ByteArray) (w : World) (hB : B ≤ w.heap.size) (hp : MkAt B p w m) (h : RdS w v (x :: r)) (hs : ∀ y ∈ r, y.size ≤ 30000) (hl : r.length ≤ 100000) :
    Calls Tryd.prog 35 #[.pointer (some ⟨p, 0, none⟩), v] w (RdEnd B p (rdSizes m (bs x) (r.map bs)) w) := by
  obtain ⟨A, cap, rfl⟩ : ∃ A cap, v = .slice A (r.length + 1) cap := by
    obtain ⟨A, cap, e, _⟩ := h; exact ⟨A, cap, e⟩
  obtain ⟨b, o, rfl, hx0, hc1, hc2, ht⟩ := h.tail
  clear h
  unfold maxLen at hc2
  replace ht := Lib.hid ht
  replace hp := Lib.hid hp
  go_enter Tryd.func35, Tryd.ntmps35
  go_wp2_with fail
  all_goals
    refine (c_numbers _ r _ (by first | exact ht.out | exact RdS.tail0 (by omega)) hs hl).mono ?_
    rintro e w1 ⟨hX, ⟨hno, rfl⟩ | ⟨l, zs, nv, hnu, hsat, rfl, hown⟩⟩
    · replace hno := Lib.hid hno
      go_wp2
      go_ret
      exact RdEnd.err (sizes_no hno.out) (hX.mono hB)
    · have hx1 := hX.cell hx0
      obtain ⟨A', cap', rfl⟩ := hown.slice
      replace hX := Lib.hid hX
      replace hnu := Lib.hid hnu
      replace hsat := Lib.hid hsat
      replace hown := Lib.hid hown
      rcases hw : (x.toList == [115, 105, 122, 101, 115]) with _ | _
      · go_wp2
        go_ret
        exact RdEnd.err (sizes_word (word_ne hw)) (hX.out.mono hB)
      · go_wp2_with fail
        refine (c_within _ _ _ zs _ hown.out.rdI).mono ?_
        rintro e w2 ⟨rfl, rfl⟩
        rcases ha : zs.all (inR 0 1048576) with _ | _
        · go_wp2
          go_ret
          exact RdEnd.err (sizes_range (word_eq hw) hnu.out (by rw [← (satL_all hsat.out (by decide) (by decide)).1]; exact ha)) (hX.out.mono hB)
        · have hz := satL_all hsat.out (lo := 0) (hi := 1048576) (by decide) (by decide)
          have hzl : zs = l := hz.2 (by rw [← hz.1]; exact ha)
          subst hzl
          replace ha := Lib.hid ha
          clear hz
          by_cases h6 : 6 < zs.length
          · go_wp2
            go_ret
            exact RdEnd.err (sizes_long (word_eq hw) hnu.out ha.out h6) (hX.out.mono hB)
          · have hm1 := Lib.hid (hp.out.ext hX.out)
            obtain ⟨h0, sv, pv, hb, _, _⟩ := hm1.out
            have hf := hb.frozen 4
            have hlt := hb.lt
            have hcl : w1.cell? ⟨p, 4, none⟩ = some sv := hb.cell 4
            replace hb := Lib.hid hb
            go_wp2
            go_ret
            refine RdEnd.ok (sizes_ok (word_eq hw) hnu.out ha.out h6) ((hX.out.mono hB).setCell h0 _) (hm1.out.setSizes ?_)
            exact hown.out.mono hB

end Go.Proofs.YtmbjlbmfagfneaaDoor
