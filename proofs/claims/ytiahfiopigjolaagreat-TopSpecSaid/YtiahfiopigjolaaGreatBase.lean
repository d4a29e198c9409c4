/- Words for memory that the walks of this seat share: what lay there stays as it was (Ext); a slice that reads as a list (RdL). -/
import Derived.Test.YtiahfiopigjolaaGreatProg
import Derived.Test.YtiahfiopigjolaaGreatMod
import Derived.WalkKit
import Derived.WalkSpells
import Derived.WalkLawsBesides
import Derived.Deep.QuietTactic
import Derived.BigQuiet
import Derived.Deep.AppendLies
import Derived.Deep.Draws
import Derived.Lib.Hide
import Derived.Maps.AppendAt
import Derived.OwnWalk
namespace Go.Proofs.YtiahfiopigjolaaGreat
open Go Go.RowKit

/-- Whatever lay in w lies in w' as it was. -/
def Ext (w w' : World) : Prop := Below w.heap.size w w'

section
variable {w w' w'' : World}
theorem Ext.refl (w : World) : Ext w w := Below.refl _ _
theorem Ext.below (h : Ext w w') : Below w.heap.size w w' := h
theorem Ext.size (h : Ext w w') : w.heap.size ≤ w'.heap.size := Below.size h
theorem Ext.trans (h : Ext w w') (k : Ext w' w'') : Ext w w'' := Below.trans h (Below.mono k (Below.size h))
theorem Ext.trans_below (h : Ext w w') (k : Below w.heap.size w' w'') : Ext w w'' := Below.trans h k
theorem Ext.alloc (h : Ext w w') (o : Obj) : Ext w (w'.alloc o) := Below.alloc h (Below.size h) o
theorem Ext.drew (h : Ext w w') : Ext w w'.drew := Below.drew h
theorem Ext.drewN (h : Ext w w') (n : Nat) : Ext w (w'.drewN n) := by
  have hb : Below w.heap.size w w' := h
  exact ⟨hb.os, hb.tape, hb.output, hb.size, hb.block⟩
theorem Ext.setCell (h : Ext w w') {p : Addr} (hp : w.heap.size ≤ p.block) (u : Value) : Ext w (w'.setCell p u) := Below.setCell h hp u
theorem Ext.grown (h : Ext w w') {row : Option Nat} (hg : w'.grownBy w'' row) (hr : ∀ k, row = some k → w.heap.size ≤ k) : Ext w w'' := Below.grown h hg (Below.size h) hr
theorem Ext.cell (h : Ext w w') {p : Addr} {v : Value} (hc : w.cell? p = some v) : w'.cell? p = some v := (Below.cell h (World.block_lt_of_cell? w p hc)).trans hc
theorem Ext.heap (h : Ext w w') {g : Nat} {o : Obj} (hc : w.heap[g]? = some o) : w'.heap[g]? = some o := by
  have hlt : g < w.heap.size := (Array.getElem?_eq_some_iff.1 hc).1
  exact (h.block g hlt).trans hc
end

/-- old cells and old marks read as before, as two rules of the walk -/
theorem Ext.rules {w w' : World} (h : Ext w w') : (∀ b o, b < w.heap.size → w'.cell? ⟨b, o, none⟩ = w.cell? ⟨b, o, none⟩) ∧ (∀ b o, b < w.heap.size → w'.frozen? ⟨b, o, none⟩ = w.frozen? ⟨b, o, none⟩) :=
  ⟨fun b o hb => h.below.cell (p := ⟨b, o, none⟩) hb, fun b o hb => h.below.frozen (p := ⟨b, o, none⟩) hb⟩

/-- The slice value v reads as the numbers xs. -/
def RdI (w : World) (v : Value) (xs : List Int) : Prop :=
  ∃ A cap, v = .slice A xs.length cap ∧ xs.length ≤ cap ∧ cap ≤ maxLen ∧ ∀ j (h : j < xs.length), ∃ b o, A = some ⟨b, o, none⟩ ∧ w.cell? ⟨b, o + j, none⟩ = some (.int .i64 xs[j])

theorem RdI.ext {w w' : World} {v : Value} {xs : List Int} (h : RdI w v xs) (he : Ext w w') : RdI w' v xs := by
  obtain ⟨A, cap, rfl, h1, h2, h3⟩ := h
  refine ⟨A, cap, rfl, h1, h2, fun j hj => ?_⟩
  obtain ⟨b, o, rfl, hc⟩ := h3 j hj
  exact ⟨b, o, rfl, he.cell hc⟩

theorem RdI.nil (w : World) : RdI w (.slice none 0 0) [] := ⟨none, 0, rfl, by simp, by simp [maxLen], fun j h => absurd h (by simp)⟩

theorem RdI.le {w : World} {v : Value} {xs : List Int} (h : RdI w v xs) : xs.length ≤ maxLen := by
  obtain ⟨_, _, _, h1, h2, _⟩ := h; omega

/-- The slice value v reads as the texts ws. -/
def RdS (w : World) (v : Value) (ws : List ByteArray) : Prop :=
  ∃ A cap, v = .slice A ws.length cap ∧ ws.length ≤ cap ∧ cap ≤ maxLen ∧ ∀ j (h : j < ws.length), ∃ b o, A = some ⟨b, o, none⟩ ∧ w.cell? ⟨b, o + j, none⟩ = some (.string ws[j])

theorem RdS.ext {w w' : World} {v : Value} {xs : List ByteArray} (h : RdS w v xs) (he : Ext w w') : RdS w' v xs := by
  obtain ⟨A, cap, rfl, h1, h2, h3⟩ := h
  refine ⟨A, cap, rfl, h1, h2, fun j hj => ?_⟩
  obtain ⟨b, o, rfl, hc⟩ := h3 j hj
  exact ⟨b, o, rfl, he.cell hc⟩

/-- a number that fits into an int -/
def I64 (n : Int) : Prop := -9223372036854775808 ≤ n ∧ n ≤ 9223372036854775807

/-! ### A slice that reads as a list -/
/-- The slice value v reads as the elements xs: each takes k cells, of which P says what they are. -/
def RdL {α : Type} (k : Nat) (P : World → List Value → α → Prop) (w : World) (v : Value) (xs : List α) : Prop :=
  ∃ A cap, v = .slice A xs.length cap ∧ xs.length ≤ cap ∧ cap ≤ maxLen ∧
    ∀ j (h : j < xs.length), ∃ b o cs, A = some ⟨b, o, none⟩ ∧ P w cs xs[j] ∧ cs.length = k ∧ ∀ i, i < k → w.cell? ⟨b, o + j * k + i, none⟩ = cs[i]?
/-- what P says is said of memory that stays -/
def Stays {α : Type} (P : World → List Value → α → Prop) : Prop := ∀ w w' cs x, Ext w w' → P w cs x → P w' cs x
section
variable {α : Type} {k : Nat} {P : World → List Value → α → Prop} {w w' : World} {v : Value} {xs : List α}
theorem RdL.ext (hP : Stays P) (h : RdL k P w v xs) (he : Ext w w') : RdL k P w' v xs := by
  obtain ⟨A, cap, rfl, h1, h2, h3⟩ := h
  refine ⟨A, cap, rfl, h1, h2, fun j hj => ?_⟩
  obtain ⟨b, o, cs, rfl, hp, hl, hc⟩ := h3 j hj
  refine ⟨b, o, cs, rfl, hP _ _ _ _ he hp, hl, fun i hi => ?_⟩
  have := hc i hi
  rw [List.getElem?_eq_getElem (by omega)] at this ⊢
  exact he.cell this
theorem RdL.nil (k : Nat) (P : World → List Value → α → Prop) (w : World) : RdL k P w (.slice none 0 0) [] := ⟨none, 0, rfl, by simp, by simp [maxLen], fun j h => absurd h (by simp)⟩
theorem RdL.slice (h : RdL k P w v xs) : ∃ A cap, v = .slice A xs.length cap := by
  obtain ⟨A, cap, h, _⟩ := h; exact ⟨A, cap, h⟩
theorem RdL.le (h : RdL k P w v xs) : xs.length ≤ maxLen := by
  obtain ⟨_, _, _, h1, h2, _⟩ := h; omega
/-- the first n elements -/
theorem RdL.take {A : Option Addr} {n c : Nat} (h : RdL k P w (.slice A n c) xs) (m : Nat) (hm : m ≤ xs.length) : RdL k P w (.slice A m c) (xs.take m) := by
  obtain ⟨A', cap', e, h1, h2, h3⟩ := h
  injection e with e1 e2 e3
  subst e1 e3
  refine ⟨A, c, by rw [List.length_take, Nat.min_eq_left hm], by rw [List.length_take]; omega, h2, fun j hj => ?_⟩
  rw [List.length_take] at hj
  rw [List.getElem_take]
  exact h3 j (by omega)
end

/-- cells of a spot -/
def spC (s : Sp) : List Value := [.int .i64 s.x, .int .i64 s.y]
def spP (_ : World) (cs : List Value) (s : Sp) : Prop := cs = spC s
def inP (_ : World) (cs : List Value) (n : Int) : Prop := cs = [.int .i64 n]
def stP (_ : World) (cs : List Value) (s : ByteArray) : Prop := cs = [.string s] ∧ s.size ≤ maxLen
def ntP (_ : World) (cs : List Value) (n : Nt) : Prop := cs = [.int .i64 n.edge, .int .i64 n.at_]
def usP (_ : World) (cs : List Value) (u : Us) : Prop := cs = [.int .i64 u.piece, .int .i64 u.count, .bool u.pair]
def smP (_ : World) (cs : List Value) (m : Sm) : Prop := cs = [.int .i64 m.pa, .int .i64 m.ea, .int .i64 m.pb, .int .i64 m.eb, .bool m.rev, .int .i64 m.ease]
def edC (e : Ed) (v : Value) : List Value := [.string e.name, v]
def edP (w : World) (cs : List Value) (e : Ed) : Prop := ∃ v, cs = edC e v ∧ RdL 2 spP w v e.line ∧ e.name.size ≤ maxLen
def pcC (p : Pc) (v1 v2 v3 v4 : Value) : List Value := [.string p.name, v1, .int .i64 p.grain, v2, v3, v4, .bool p.mat]
/-- the four slices of a piece -/
structure PcR (w : World) (p : Pc) (v1 v2 v3 v4 : Value) : Prop where
  ed : RdL 2 edP w v1 p.edges
  nt : RdL 2 ntP w v2 p.notches
  co : RdL 2 spP w v3 p.corners
  wi : RdL 1 inP w v4 p.widths
  nm : p.name.size ≤ maxLen
def pcP (w : World) (cs : List Value) (p : Pc) : Prop := ∃ v1 v2 v3 v4, cs = pcC p v1 v2 v3 v4 ∧ PcR w p v1 v2 v3 v4
def pmC (p : Pm) (v1 v2 : Value) : List Value := [.string p.name, v1, v2, .int .i64 p.plus, .int .i64 p.minus]
structure PmR (w : World) (p : Pm) (v1 v2 : Value) : Prop where
  pc : RdL 1 inP w v1 p.pieces
  ed : RdL 1 inP w v2 p.edges
  nm : p.name.size ≤ maxLen
def pmP (w : World) (cs : List Value) (p : Pm) : Prop := ∃ v1 v2, cs = pmC p v1 v2 ∧ PmR w p v1 v2
theorem spP.stays : Stays spP := fun _ _ _ _ _ h => h
theorem inP.stays : Stays inP := fun _ _ _ _ _ h => h
theorem stP.stays : Stays stP := fun _ _ _ _ _ h => h
theorem ntP.stays : Stays ntP := fun _ _ _ _ _ h => h
theorem usP.stays : Stays usP := fun _ _ _ _ _ h => h
theorem smP.stays : Stays smP := fun _ _ _ _ _ h => h
theorem edP.stays : Stays edP := fun _ _ _ _ he ⟨v, h1, h2, h3⟩ => ⟨v, h1, h2.ext spP.stays he, h3⟩
theorem PcR.ext {w w' : World} {p : Pc} {v1 v2 v3 v4 : Value} (h : PcR w p v1 v2 v3 v4) (he : Ext w w') : PcR w' p v1 v2 v3 v4 :=
  ⟨h.ed.ext edP.stays he, h.nt.ext ntP.stays he, h.co.ext spP.stays he, h.wi.ext inP.stays he, h.nm⟩
theorem pcP.stays : Stays pcP := fun _ _ _ _ he ⟨v1, v2, v3, v4, h1, h2⟩ => ⟨v1, v2, v3, v4, h1, h2.ext he⟩
theorem PmR.ext {w w' : World} {p : Pm} {v1 v2 : Value} (h : PmR w p v1 v2) (he : Ext w w') : PmR w' p v1 v2 := ⟨h.pc.ext inP.stays he, h.ed.ext inP.stays he, h.nm⟩
theorem pmP.stays : Stays pmP := fun _ _ _ _ he ⟨v1, v2, h1, h2⟩ => ⟨v1, v2, h1, h2.ext he⟩
/-- the slices of a style -/
structure StR (w : World) (s : St) (v1 v2 v3 v4 v5 v6 : Value) : Prop where
  sz : RdL 1 stP w v1 s.sizes
  mu : RdL 1 inP w v2 s.mults
  pc : RdL 7 pcP w v3 s.pieces
  us : RdL 3 usP w v4 s.uses
  sm : RdL 6 smP w v5 s.seams
  op : ∃ A c, v6 = .slice A s.nops c ∧ s.nops ≤ maxLen
  nm : s.name.size ≤ maxLen
theorem StR.ext {w w' : World} {s : St} {v1 v2 v3 v4 v5 v6 : Value} (h : StR w s v1 v2 v3 v4 v5 v6) (he : Ext w w') : StR w' s v1 v2 v3 v4 v5 v6 :=
  ⟨h.sz.ext stP.stays he, h.mu.ext inP.stays he, h.pc.ext pcP.stays he, h.us.ext usP.stays he, h.sm.ext smP.stays he, h.op, h.nm⟩
def stC (s : St) (v1 v2 v3 v4 v5 v6 : Value) : List Value := [.string s.name, v1, v2, v3, v4, v5, v6]

section
variable {w : World} {A : Option Addr} {n c : Nat}
/-- what a walk reads of one element -/
theorem RdL.sp {xs : List Sp} (h : RdL 2 spP w (.slice A n c) xs) (j : Nat) (hj : j < xs.length) : ∃ b o, A = some ⟨b, o, none⟩ ∧ w.cell? ⟨b, o + j * 2, none⟩ = some (.int .i64 xs[j].x) ∧ w.cell? ⟨b, o + j * 2 + 1, none⟩ = some (.int .i64 xs[j].y) := by
  obtain ⟨A', c', e, _, _, h3⟩ := h
  injection e with e1 _ _
  obtain ⟨b, o, cs, e2, hp, _, hc⟩ := h3 j hj
  subst hp
  exact ⟨b, o, e1.trans e2, hc 0 (by omega), hc 1 (by omega)⟩
theorem RdL.int {xs : List Int} (h : RdL 1 inP w (.slice A n c) xs) (j : Nat) (hj : j < xs.length) : ∃ b o, A = some ⟨b, o, none⟩ ∧ w.cell? ⟨b, o + j, none⟩ = some (.int .i64 xs[j]) := by
  obtain ⟨A', c', e, _, _, h3⟩ := h
  injection e with e1 _ _
  obtain ⟨b, o, cs, e2, hp, _, hc⟩ := h3 j hj
  subst hp
  exact ⟨b, o, e1.trans e2, by simpa using hc 0 (by omega)⟩
theorem RdL.str {xs : List ByteArray} (h : RdL 1 stP w (.slice A n c) xs) (j : Nat) (hj : j < xs.length) : ∃ b o, A = some ⟨b, o, none⟩ ∧ w.cell? ⟨b, o + j, none⟩ = some (.string xs[j]) ∧ xs[j].size ≤ maxLen := by
  obtain ⟨A', c', e, _, _, h3⟩ := h
  injection e with e1 _ _
  obtain ⟨b, o, cs, e2, ⟨hp, hz⟩, _, hc⟩ := h3 j hj
  subst hp
  exact ⟨b, o, e1.trans e2, by simpa using hc 0 (by omega), hz⟩
theorem RdL.nt {xs : List Nt} (h : RdL 2 ntP w (.slice A n c) xs) (j : Nat) (hj : j < xs.length) : ∃ b o, A = some ⟨b, o, none⟩ ∧ w.cell? ⟨b, o + j * 2, none⟩ = some (.int .i64 xs[j].edge) ∧ w.cell? ⟨b, o + j * 2 + 1, none⟩ = some (.int .i64 xs[j].at_) := by
  obtain ⟨A', c', e, _, _, h3⟩ := h
  injection e with e1 _ _
  obtain ⟨b, o, cs, e2, hp, _, hc⟩ := h3 j hj
  subst hp
  exact ⟨b, o, e1.trans e2, hc 0 (by omega), hc 1 (by omega)⟩
theorem RdL.us {xs : List Us} (h : RdL 3 usP w (.slice A n c) xs) (j : Nat) (hj : j < xs.length) : ∃ b o, A = some ⟨b, o, none⟩ ∧ w.cell? ⟨b, o + j * 3, none⟩ = some (.int .i64 xs[j].piece) ∧ w.cell? ⟨b, o + j * 3 + 1, none⟩ = some (.int .i64 xs[j].count) ∧ w.cell? ⟨b, o + j * 3 + 2, none⟩ = some (.bool xs[j].pair) := by
  obtain ⟨A', c', e, _, _, h3⟩ := h
  injection e with e1 _ _
  obtain ⟨b, o, cs, e2, hp, _, hc⟩ := h3 j hj
  subst hp
  exact ⟨b, o, e1.trans e2, hc 0 (by omega), hc 1 (by omega), hc 2 (by omega)⟩
theorem RdL.sm {xs : List Sm} (h : RdL 6 smP w (.slice A n c) xs) (j : Nat) (hj : j < xs.length) : ∃ b o, A = some ⟨b, o, none⟩ ∧ w.cell? ⟨b, o + j * 6, none⟩ = some (.int .i64 xs[j].pa) ∧ w.cell? ⟨b, o + j * 6 + 1, none⟩ = some (.int .i64 xs[j].ea) ∧ w.cell? ⟨b, o + j * 6 + 2, none⟩ = some (.int .i64 xs[j].pb) ∧ w.cell? ⟨b, o + j * 6 + 3, none⟩ = some (.int .i64 xs[j].eb) ∧ w.cell? ⟨b, o + j * 6 + 4, none⟩ = some (.bool xs[j].rev) ∧ w.cell? ⟨b, o + j * 6 + 5, none⟩ = some (.int .i64 xs[j].ease) := by
  obtain ⟨A', c', e, _, _, h3⟩ := h
  injection e with e1 _ _
  obtain ⟨b, o, cs, e2, hp, _, hc⟩ := h3 j hj
  subst hp
  exact ⟨b, o, e1.trans e2, hc 0 (by omega), hc 1 (by omega), hc 2 (by omega), hc 3 (by omega), hc 4 (by omega), hc 5 (by omega)⟩
theorem RdL.edge {xs : List Ed} (h : RdL 2 edP w (.slice A n c) xs) (j : Nat) (hj : j < xs.length) : ∃ b o L m, A = some ⟨b, o, none⟩ ∧ RdL 2 spP w (.slice L xs[j].line.length m) xs[j].line ∧ xs[j].name.size ≤ maxLen ∧ w.cell? ⟨b, o + j * 2, none⟩ = some (.string xs[j].name) ∧ w.cell? ⟨b, o + j * 2 + 1, none⟩ = some (.slice L xs[j].line.length m) := by
  obtain ⟨A', c', e, _, _, h3⟩ := h
  injection e with e1 _ _
  obtain ⟨b, o, cs, e2, ⟨v, hp, hr, hz⟩, _, hc⟩ := h3 j hj
  subst hp
  obtain ⟨L, m, rfl⟩ := hr.slice
  exact ⟨b, o, L, m, e1.trans e2, hr, hz, hc 0 (by omega), hc 1 (by omega)⟩
end

theorem ret_bool {a b : Bool} (h : a = b) : Ending.returned (.bool a) = .returned (.bool b) := by rw [h]
theorem ret_int {k : IntKind} {a b : Int} (h : a = b) : Ending.returned (.int k a) = .returned (.int k b) := by rw [h]

theorem take_snoc {α : Type} (l : List α) (k : Nat) (h : k < l.length) : l.take (k + 1) = l.take k ++ [l[k]] :=
  List.take_succ_eq_append_getElem h


/-- The slice's row lies in a block from B on (or there is none). -/
def Fresh (B : Nat) (v : Value) : Prop := ∀ a n c, v = .slice (some a) n c → B ≤ a.block
theorem Fresh.nil (B : Nat) (n c : Nat) : Fresh B (.slice none n c) := fun a n c h => by injection h with h; cases h
theorem Fresh.mk (B b o n c : Nat) (sp : Option Nat) (h : B ≤ b) : Fresh B (.slice (some ⟨b, o, sp⟩) n c) := fun a n c e => by injection e with e; injection e with e; subst e; exact h
theorem Fresh.mono {B B' : Nat} {v : Value} (h : Fresh B v) (hB : B' ≤ B) : Fresh B' v := fun a n c e => Nat.le_trans hB (h a n c e)
theorem Fresh.block {B b o n c : Nat} {sp : Option Nat} (h : Fresh B (.slice (some ⟨b, o, sp⟩) n c)) : B ≤ b := h _ _ _ rfl

/-- Block g is just the cells cs of element type t, none frozen. -/
def Blk (w : World) (g : Nat) (t : TypeId) (cs : Array Value) : Prop := w.heap[g]? = some (.cells cs t (0, 0))
section
variable {w w' : World} {g : Nat} {t : TypeId} {cs : Array Value}
theorem Blk.lt (h : Blk w g t cs) : g < w.heap.size := (Array.getElem?_eq_some_iff.1 h).1
theorem Blk.cell (h : Blk w g t cs) (i : Nat) : w.cell? ⟨g, i, none⟩ = cs[i]? := cell_of_row w g i cs t (0, 0) h
theorem Blk.frozen (h : Blk w g t cs) (i : Nat) : w.frozen? ⟨g, i, none⟩ = false := by
  unfold Blk at h
  simp [World.frozen?, h]
theorem Blk.new (w : World) (t : TypeId) (cs : Array Value) : Blk (w.alloc (.cells cs t)) w.heap.size t cs := heap_alloc_new w _
theorem Blk.drew (h : Blk w g t cs) : Blk w.drew g t cs := h
theorem Blk.drewN (h : Blk w g t cs) (n : Nat) : Blk (w.drewN n) g t cs := h
theorem Blk.alloc (h : Blk w g t cs) (o : Obj) : Blk (w.alloc o) g t cs := (Below.heap_alloc w o g h.lt).trans h
theorem Blk.set_ (h : Blk w g t cs) (i : Nat) (u : Value) : Blk (w.setCell ⟨g, i, none⟩ u) g t (cs.setIfInBounds i u) := by
  unfold Blk at h ⊢
  simp [World.setCell, Array.getElem?_modify, h]
theorem Blk.far (h : Blk w g t cs) {p : Addr} (hp : g ≠ p.block) (u : Value) : Blk (w.setCell p u) g t cs := (Below.heap_setCell w p u g hp).trans h
theorem Blk.ext (h : Blk w g t cs) (he : Ext w w') : Blk w' g t cs := he.heap h
theorem Blk.below {B : Nat} (h : Blk w g t cs) (hb : Below B w w') (hg : g < B) : Blk w' g t cs := (hb.block g hg).trans h
theorem Blk.grown {row : Option Nat} (h : Blk w g t cs) (hb : w.grownBy w' row) (hg : some g ≠ row) : Blk w' g t cs := (hb.block g h.lt hg).trans h
end
/-- what a walk wants to know of a block of one cell -/
theorem Blk.parts1 {w : World} {g : Nat} {t : TypeId} {a : Value} (h : Blk w g t #[a]) : w.cell? ⟨g, 0, none⟩ = some a ∧ w.frozen? ⟨g, 0, none⟩ = false ∧ g < w.heap.size :=
  ⟨h.cell 0, h.frozen 0, h.lt⟩
theorem Blk.parts2 {w : World} {g : Nat} {t : TypeId} {a b : Value} (h : Blk w g t #[a, b]) :
    w.cell? ⟨g, 0, none⟩ = some a ∧ w.cell? ⟨g, 1, none⟩ = some b ∧ w.frozen? ⟨g, 0, none⟩ = false ∧ w.frozen? ⟨g, 1, none⟩ = false ∧ g < w.heap.size :=
  ⟨h.cell 0, h.cell 1, h.frozen 0, h.frozen 1, h.lt⟩
theorem Blk.parts3 {w : World} {g : Nat} {t : TypeId} {a b c : Value} (h : Blk w g t #[a, b, c]) :
    w.cell? ⟨g, 0, none⟩ = some a ∧ w.cell? ⟨g, 1, none⟩ = some b ∧ w.cell? ⟨g, 2, none⟩ = some c ∧ w.frozen? ⟨g, 0, none⟩ = false ∧ w.frozen? ⟨g, 1, none⟩ = false ∧ w.frozen? ⟨g, 2, none⟩ = false ∧ g < w.heap.size :=
  ⟨h.cell 0, h.cell 1, h.cell 2, h.frozen 0, h.frozen 1, h.frozen 2, h.lt⟩

/-- Block g has n cells of element type t, none frozen, whatever they hold. -/
def HasBlk (w : World) (g : Nat) (t : TypeId) (n : Nat) : Prop := ∃ cs : Array Value, Blk w g t cs ∧ cs.size = n
theorem Blk.has {w : World} {g : Nat} {t : TypeId} {cs : Array Value} (h : Blk w g t cs) : HasBlk w g t cs.size := ⟨cs, h, rfl⟩
section
variable {w w' : World} {g n : Nat} {t : TypeId}
theorem HasBlk.ext (h : HasBlk w g t n) (he : Ext w w') : HasBlk w' g t n := by
  obtain ⟨cs, h, hs⟩ := h; exact ⟨cs, h.ext he, hs⟩
theorem HasBlk.drew (h : HasBlk w g t n) : HasBlk w.drew g t n := h
theorem HasBlk.set (h : HasBlk w g t n) (p : Addr) (u : Value) (hp : p.spot = none) : HasBlk (w.setCell p u) g t n := by
  obtain ⟨cs, h, hs⟩ := h
  by_cases e : g = p.block
  · obtain ⟨b, o, sp⟩ := p
    subst e
    cases hp
    exact ⟨_, h.set_ o u, by simp [hs]⟩
  · exact ⟨cs, h.far e u, hs⟩
theorem HasBlk.two (h : HasBlk w g t 2) : ∃ a b, Blk w g t #[a, b] := by
  obtain ⟨⟨l⟩, h, hs⟩ := h
  match l, hs with
  | [a, b], _ => exact ⟨a, b, h⟩
theorem HasBlk.three (h : HasBlk w g t 3) : ∃ a b c, Blk w g t #[a, b, c] := by
  obtain ⟨⟨l⟩, h, hs⟩ := h
  match l, hs with
  | [a, b, c], _ => exact ⟨a, b, c, h⟩
end

/-- Below block number N the world w' is as W was. -/
def Kp (N : Nat) (W w' : World) : Prop := N ≤ W.heap.size ∧ Below N W w'
section
variable {N : Nat} {W w w' : World}
theorem Kp.start (h : N ≤ W.heap.size) : Kp N W W := ⟨h, Below.refl _ _⟩
theorem Kp.drew (h : Kp N W w) : Kp N W w.drew := ⟨h.1, h.2.drew⟩
theorem Kp.call (h : Kp N W w) (he : Ext w w') : Kp N W w' := ⟨h.1, h.2.trans (Below.mono he (Nat.le_trans h.1 h.2.size))⟩
theorem Kp.alloc (h : Kp N W w) (o : Obj) : Kp N W (w.alloc o) := ⟨h.1, h.2.alloc (Nat.le_trans h.1 h.2.size) o⟩
theorem Kp.set (h : Kp N W w) {p : Addr} (hp : N ≤ p.block) (u : Value) : Kp N W (w.setCell p u) := ⟨h.1, h.2.setCell hp u⟩
theorem Kp.grown {row : Option Nat} (h : Kp N W w) (hg : w.grownBy w' row) (hr : ∀ k, row = some k → N ≤ k) : Kp N W w' := ⟨h.1, h.2.grown hg (Nat.le_trans h.1 h.2.size) hr⟩
theorem Kp.cells (h : Kp N W w) : ∀ b o, b < N → w.cell? ⟨b, o, none⟩ = W.cell? ⟨b, o, none⟩ := fun b o hb => h.2.cell (p := ⟨b, o, none⟩) hb
theorem Kp.both (h : Kp N W w) : (∀ b o, b < N → w.cell? ⟨b, o, none⟩ = W.cell? ⟨b, o, none⟩) ∧ Kp N W w := ⟨h.cells, h⟩
/-- what lay before W lies here as it was -/
theorem Kp.ext {w0 : World} (h : Kp N W w) (hX : Ext w0 W) (hN : w0.heap.size ≤ N) : Ext w0 w := Below.trans hX (Below.mono h.2 hN)
theorem Kp.blk {g : Nat} {t : TypeId} {cs : Array Value} (h : Kp N W w) (hb : Blk W g t cs) (hg : g < N) : Blk w g t cs := hb.below h.2 hg
theorem Kp.size (h : Kp N W w) : W.heap.size ≤ w.heap.size := h.2.size
end

theorem RdI.far {w : World} {v : Value} {xs : List Int} (h : RdI w v xs) {B : Nat} (hf : Fresh B v) {p : Addr} (hp : p.block < B) (u : Value) : RdI (w.setCell p u) v xs := by
  obtain ⟨A, cap, rfl, h1, h2, h3⟩ := h
  refine ⟨A, cap, rfl, h1, h2, fun j hj => ?_⟩
  obtain ⟨b, o, rfl, hc⟩ := h3 j hj
  refine ⟨b, o, rfl, ?_⟩
  have hb : B ≤ b := hf.block
  rw [World.cell?_setCell_other w p _ u (fun e => by subst e; simp at hp; omega)]
  exact hc
theorem RdI.nat {w : World} {v : Value} {xs : List Int} (h : RdI w v xs) : ∃ A cap, v = .slice A xs.length cap := by
  obtain ⟨A, cap, h, _⟩ := h; exact ⟨A, cap, h⟩

/-- The slice value v owns the numbers l, in a row of its own from block B on. -/
def OwnL (k : IntKind) (E : TypeId) (B : Nat) (w : World) (v : Value) (l : List Int) : Prop := w.ownsRow B E 1 v l.length (l.map (Value.int k))
section
variable {k : IntKind} {E : TypeId} {B : Nat} {w w' w0 : World} {v : Value} {l : List Int}
theorem OwnL.nil (k : IntKind) (E : TypeId) (B : Nat) (w : World) : OwnL k E B w (.slice none 0 0) [] := World.ownsRow_nil w B E 1
theorem OwnL.base (h : OwnL k E B w v l) : ∀ g, v.ownBlock = some g → B ≤ g := fun g hg => (World.ownsRow.lt h g hg).1
theorem OwnL.slice (h : OwnL k E B w v l) : ∃ A cap, v = .slice A l.length cap := by
  rcases h.2 with ⟨rfl, h0⟩ | ⟨g, cap, cur, rfl, _⟩
  · exact ⟨none, 0, by rw [h0]⟩
  · exact ⟨_, _, rfl⟩
theorem OwnL.kept {row : Option Nat} (h : OwnL k E B w v l) (hg : w.grownBy w' row) (hne : v.ownBlock = none ∨ v.ownBlock ≠ row) : OwnL k E B w' v l := World.ownsRow.kept h hg hne
theorem OwnL.alloc (h : OwnL k E B w v l) (o : Obj) : OwnL k E B (w.alloc o) v l := World.ownsRow.alloc h o
theorem OwnL.ext (h : OwnL k E B w v l) (he : Ext w w') : OwnL k E B w' v l := by
  refine World.ownsRow.kept h (row := none) ⟨he.below.os, he.below.tape, he.below.output, he.size, fun i hi _ => he.below.block i hi⟩ ?_
  cases v.ownBlock <;> simp
theorem OwnL.drewN (h : OwnL k E B w v l) (n : Nat) : OwnL k E B (w.drewN n) v l := h
theorem OwnL.extGrown (h : OwnL k E B w v l) (hX : Ext w0 w) (hB : w0.heap.size ≤ B) (hg : w.grownBy w' v.ownBlock) : Ext w0 w' :=
  hX.grown hg (fun g hgg => Nat.le_trans hB (h.base g hgg))
theorem OwnL.fresh (h : OwnL k E B w v l) : Fresh B v := fun a n c e => by subst e; exact h.base a.block rfl
theorem OwnL.cells (h : OwnL k E B w v l) : ∃ A cap, v = .slice A l.length cap ∧ l.length ≤ cap ∧ cap ≤ maxLen ∧ ∀ j (h : j < l.length), ∃ b o, A = some ⟨b, o, none⟩ ∧ w.cell? ⟨b, o + j, none⟩ = some (.int k l[j]) := by
  rcases h.2 with ⟨rfl, h0⟩ | ⟨g, cap, cur, rfl, _, hh, hn, hm, hs, ht⟩
  · exact ⟨none, 0, by rw [h0], by omega, by simp [maxLen], fun j hj => absurd hj (by omega)⟩
  · refine ⟨_, cap, rfl, hn, hm, fun j hj => ⟨g, 0, rfl, ?_⟩⟩
    rw [Nat.zero_add, cell_of_row w g j cur E (0, 0) hh]
    have h1 : (cur.toList.take (l.length * 1))[j]? = some (.int k l[j]) := by rw [ht]; simp [hj]
    rw [List.getElem?_take, if_pos (by omega)] at h1
    simpa using h1
theorem OwnL.rdI (h : OwnL .i64 E B w v l) : RdI w v l := h.cells
end

/-- append of one number onto a row of the call's own -/
theorem wpList_app1 {P : Program} {w : World} {ops : Array Oper} {rest : List Oper} {o : Oper} {a : Act} {Q : Exit → Act → World → Prop} (hgd : o.guard = none) (s x : Operand) (t : TypeId)
    (ho : o.op = .call { callee := .builtin .append, args := #[s, x], argTypes := #[t, t] })
    (k : IntKind) (E B bytes : Nat) (ht : P.underlying t = some (.slice E)) (hinfo : (P.info? E).map (fun i => (i.zero, i.size, i.bytes)) = some (some (.int k 0), 1, bytes)) (hb8 : bytes ≤ 8)
    (v : Value) (l : List Int) (y : Int) (g c : Nat) (hs : a.eval s = v) (hown : OwnL k E B w v l) (hx : a.eval x = .slice (some ⟨g, 0, none⟩) 1 c) (hc : w.cell? ⟨g, 0, none⟩ = some (.int k y))
    (hlen : l.length ≤ 1099511627776) (hbase : B ≤ w.heap.size)
    (h : ∀ A cap w', OwnL k E B w' (.slice A (l.length + 1) cap) (l ++ [y]) → w.grownBy w' v.ownBlock → (Value.ownBlock (.slice A (l.length + 1) cap) = v.ownBlock ∨ Value.ownBlock (.slice A (l.length + 1) cap) = some w.heap.size) → wpList P ops Q rest (a.put o.dst (.slice A (l.length + 1) cap)) w') :
    wpList P ops Q (o :: rest) a w := by
  obtain ⟨i, hi, hz0, hz1, hz2⟩ := info_parts hinfo
  refine wpList_append_own_at w hgd s x t ho B E i (.int k 0) 1 bytes ht hi hz0 hz1 hz2 rfl (by decide) v l.length (l.map (Value.int k)) hs hown ⟨g, 0, none⟩ 1 c [.int k y] hx rfl ?_ ?_ ?_ ?_ hbase ?_
  · intro j u hu
    rcases j with _ | j
    · simp at hu; subst hu; exact hc
    · simp at hu
  · intro u hu; simp at hu; subst hu; rfl
  · simp only [maxLen]; omega
  · have : (l.length + 1) * bytes ≤ (l.length + 1) * 8 := Nat.mul_le_mul_left _ hb8
    omega
  · intro v' w' ho' hg _ hat
    have ho2 : OwnL k E B w' v' (l ++ [y]) := by unfold OwnL; simpa using ho'
    obtain ⟨A, cap, rfl⟩ := ho2.slice
    simp only [List.length_append, List.length_singleton] at ho2 hat ⊢
    exact h A cap w' ho2 hg hat

theorem run_append_of_none {P : Program} (w : World) (base : Nat) (t ty e : TypeId) (i : TypeInfo) (size : Nat) (ht : P.underlying t = some (.slice e)) (hi : P.info? e = some i)
    (v : Value) (n : Nat) (xs : List Value) (hown : w.ownsRow base e size v n xs) (c : Nat) : (Builtin.append_ #[t, t] ty #[v, .slice none 0 c]).run P w = .ok v w := by
  rcases hown.2 with ⟨rfl, rfl⟩ | ⟨g, cap, cur, rfl, _, _, hnc, _⟩
  · simp [Builtin.append_, run_underlying ht, sizeOf, typeInfo, hi, Builtin.lenOf, Builtin.firstCells]
  · simp [Builtin.append_, run_underlying ht, sizeOf, typeInfo, hi, Builtin.lenOf, Builtin.firstCells, hnc, storeCells]

theorem addr_add0 (b o j : Nat) : (⟨b, o, none⟩ : Addr).add j = ⟨b, o + j, none⟩ := by
  unfold Addr.add; split <;> simp_all

/-- append of a whole slice of numbers onto a row of the call's own -/
theorem wpList_appL {P : Program} {w : World} {ops : Array Oper} {rest : List Oper} {o : Oper} {a : Act} {Q : Exit → Act → World → Prop} (hgd : o.guard = none) (s x : Operand) (t : TypeId)
    (ho : o.op = .call { callee := .builtin .append, args := #[s, x], argTypes := #[t, t] })
    (k : IntKind) (E B bytes : Nat) (ht : P.underlying t = some (.slice E)) (hinfo : (P.info? E).map (fun i => (i.zero, i.size, i.bytes)) = some (some (.int k 0), 1, bytes)) (hb8 : bytes ≤ 8)
    (v : Value) (l ys : List Int) (A : Option Addr) (c : Nat) (hs : a.eval s = v) (hown : OwnL k E B w v l) (hx : a.eval x = .slice A ys.length c)
    (hc : ∀ j (h : j < ys.length), ∃ b o, A = some ⟨b, o, none⟩ ∧ w.cell? ⟨b, o + j, none⟩ = some (.int k ys[j]))
    (hlen : l.length + ys.length ≤ 1099511627776) (hbase : B ≤ w.heap.size)
    (h : ∀ A' cap w', OwnL k E B w' (.slice A' (l.length + ys.length) cap) (l ++ ys) → w.grownBy w' v.ownBlock → (Value.ownBlock (.slice A' (l.length + ys.length) cap) = v.ownBlock ∨ Value.ownBlock (.slice A' (l.length + ys.length) cap) = some w.heap.size) → wpList P ops Q rest (a.put o.dst (.slice A' (l.length + ys.length) cap)) w') :
    wpList P ops Q (o :: rest) a w := by
  obtain ⟨i, hi, hz0, hz1, hz2⟩ := info_parts hinfo
  have key : ∃ v' w', (Builtin.append_ #[t, t] o.type #[v, .slice A ys.length c]).run P w = .ok v' w' ∧ OwnL k E B w' v' (l ++ ys) ∧ w.grownBy w' v.ownBlock ∧ (v'.ownBlock = v.ownBlock ∨ v'.ownBlock = some w.heap.size) := by
    rcases A with _ | ad
    · have h0 : ys = [] := by
        rcases ys with _ | ⟨y, r⟩
        · rfl
        · obtain ⟨b, o, e, _⟩ := hc 0 (by simp)
          cases e
      subst h0
      exact ⟨v, w, run_append_of_none w B t o.type E i 1 ht hi v l.length _ hown c, by simpa using hown, ⟨rfl, rfl, rfl, Nat.le_refl _, fun _ _ _ => rfl⟩, .inl rfl⟩
    · have hcells : ∀ j u, (ys.map (Value.int k))[j]? = some u → w.cell? (ad.add j) = some u := by
        intro j u hu
        rw [List.getElem?_map] at hu
        rcases Nat.lt_or_ge j ys.length with hj | hj
        · obtain ⟨b, o, e, hcc⟩ := hc j hj
          injection e with e
          subst e
          rw [List.getElem?_eq_getElem hj] at hu
          simp at hu
          subst hu
          rw [addr_add0]; exact hcc
        · rw [List.getElem?_eq_none hj] at hu; cases hu
      obtain ⟨v', w', hr, h2, h3, _, h5⟩ := run_append_own_at (P := P) w B t o.type E i (.int k 0) 1 bytes ht hi hz0 hz1 hz2 rfl (by decide) v l.length _ hown ad ys.length c (ys.map (Value.int k)) (by simp) hcells
        (by intro u hu; simp at hu; obtain ⟨y, _, rfl⟩ := hu; rfl) (by simp only [maxLen]; omega) (by have : (l.length + ys.length) * bytes ≤ (l.length + ys.length) * 8 := Nat.mul_le_mul_left _ hb8; omega) hbase
      exact ⟨v', w', hr, by unfold OwnL; simpa using h2, h3, h5⟩
  obtain ⟨v', w', hr, ho2, hg, hat⟩ := key
  obtain ⟨A', cap, rfl⟩ := ho2.slice
  simp only [List.length_append] at ho2 hat hr
  refine wpList_plain hgd fun K hK => ?_
  unfold Oper.wp execOp
  simp only [ho, resolve, invoke, builtin, Sem.run_bind, Sem.run_pure, Result.andThen_ok, List.map_toArray, List.map_cons, List.map_nil, hs, hx, hr]
  exact hK _ _ (h A' cap w' ho2 hg hat)
theorem Blk.at {w : World} {t : TypeId} {cs : Array Value} {g : Nat} (h : g = w.heap.size) : Blk (w.alloc (.cells cs t)) g t cs := by subst h; exact Blk.new w t cs
theorem size_alloc (w : World) (o : Obj) : (w.alloc o).heap.size = w.heap.size + 1 := by simp
theorem rdI_four {w : World} {g : Nat} {a b c d : Int} (h : Blk w g 3 #[.int .i64 a, .int .i64 b, .int .i64 c, .int .i64 d]) : RdI w (.slice (some ⟨g, 0, none⟩) 4 4) [a, b, c, d] := by
  refine ⟨_, 4, rfl, by simp, by simp [maxLen], fun j hj => ⟨g, 0, rfl, ?_⟩⟩
  rw [h.cell]
  have hj : j < 4 := hj
  match j, hj with
  | 0, _ => rfl
  | 1, _ => rfl
  | 2, _ => rfl
  | 3, _ => rfl
theorem rdI_three {w : World} {g : Nat} {a b c : Int} (h : Blk w g 3 #[.int .i64 a, .int .i64 b, .int .i64 c]) : RdI w (.slice (some ⟨g, 0, none⟩) 3 3) [a, b, c] := by
  refine ⟨_, 3, rfl, by simp, by simp [maxLen], fun j hj => ⟨g, 0, rfl, ?_⟩⟩
  rw [h.cell]
  have hj : j < 3 := hj
  match j, hj with
  | 0, _ => rfl
  | 1, _ => rfl
  | 2, _ => rfl
theorem rdI_two {w : World} {g : Nat} {a b : Int} (h : Blk w g 3 #[.int .i64 a, .int .i64 b]) : RdI w (.slice (some ⟨g, 0, none⟩) 2 2) [a, b] := by
  refine ⟨_, 2, rfl, by simp, by simp [maxLen], fun j hj => ⟨g, 0, rfl, ?_⟩⟩
  rw [h.cell]
  have hj : j < 2 := hj
  match j, hj with
  | 0, _ => rfl
  | 1, _ => rfl
theorem rdI_one {w : World} {g : Nat} {a : Int} (h : Blk w g 3 #[.int .i64 a]) : RdI w (.slice (some ⟨g, 0, none⟩) 1 1) [a] := by
  refine ⟨_, 1, rfl, by simp, by simp [maxLen], fun j hj => ⟨g, 0, rfl, ?_⟩⟩
  rw [h.cell]
  have hj : j < 1 := hj
  match j, hj with
  | 0, _ => rfl

theorem rdI_five {w : World} {g : Nat} {a b c d e : Int} (h : Blk w g 3 #[.int .i64 a, .int .i64 b, .int .i64 c, .int .i64 d, .int .i64 e]) : RdI w (.slice (some ⟨g, 0, none⟩) 5 5) [a, b, c, d, e] := by
  refine ⟨_, 5, rfl, by simp, by simp [maxLen], fun j hj => ⟨g, 0, rfl, ?_⟩⟩
  rw [h.cell]
  have hj : j < 5 := hj
  match j, hj with
  | 0, _ => rfl
  | 1, _ => rfl
  | 2, _ => rfl
  | 3, _ => rfl
  | 4, _ => rfl
/-- what a walk wants to know of a block of four cells -/
theorem Blk.parts4 {w : World} {g : Nat} {t : TypeId} {a b c d : Value} (h : Blk w g t #[a, b, c, d]) :
    w.cell? ⟨g, 0, none⟩ = some a ∧ w.cell? ⟨g, 1, none⟩ = some b ∧ w.cell? ⟨g, 2, none⟩ = some c ∧ w.cell? ⟨g, 3, none⟩ = some d := ⟨h.cell 0, h.cell 1, h.cell 2, h.cell 3⟩
theorem Blk.parts7 {w : World} {g : Nat} {t : TypeId} {a b c d e f k : Value} (h : Blk w g t #[a, b, c, d, e, f, k]) :
    w.cell? ⟨g, 0, none⟩ = some a ∧ w.cell? ⟨g, 1, none⟩ = some b ∧ w.cell? ⟨g, 2, none⟩ = some c ∧ w.cell? ⟨g, 3, none⟩ = some d ∧ w.cell? ⟨g, 4, none⟩ = some e ∧ w.cell? ⟨g, 5, none⟩ = some f ∧ w.cell? ⟨g, 6, none⟩ = some k := ⟨h.cell 0, h.cell 1, h.cell 2, h.cell 3, h.cell 4, h.cell 5, h.cell 6⟩

/-! ### Rows of structures that a call makes itself -/

theorem flat_get {α : Type} {k : Nat} (enc : α → List Value) (hk : ∀ x, (enc x).length = k) : ∀ (l : List α) (j : Nat) (h : j < l.length) (i : Nat), i < k → (l.flatMap enc)[j * k + i]? = (enc l[j])[i]?
  | [], _, h, _, _ => by simp at h
  | a :: l, 0, _, i, hi => by
    rw [List.flatMap_cons, List.getElem?_append_left (by rw [hk]; omega)]; simp
  | a :: l, j + 1, h, i, hi => by
    rw [List.flatMap_cons, List.getElem?_append_right (by rw [hk, Nat.succ_mul]; omega), hk, show (j + 1) * k + i - k = j * k + i by rw [Nat.succ_mul]; omega]
    exact flat_get enc hk l j (by simpa using h) i hi

/-- The slice value v owns the elements l, in a row of its own from block B on. -/
def OwnE {α : Type} (E : TypeId) (k : Nat) (enc : α → List Value) (B : Nat) (w : World) (v : Value) (l : List α) : Prop := w.ownsRow B E k v l.length (l.flatMap enc)
section
variable {α : Type} {E : TypeId} {k B : Nat} {enc : α → List Value} {w w' w0 : World} {v : Value} {l : List α}
theorem OwnE.nil (E : TypeId) (k : Nat) (enc : α → List Value) (B : Nat) (w : World) : OwnE E k enc B w (.slice none 0 0) [] := World.ownsRow_nil w B E k
theorem OwnE.base (h : OwnE E k enc B w v l) : ∀ g, v.ownBlock = some g → B ≤ g := fun g hg => (World.ownsRow.lt h g hg).1
theorem OwnE.slice (h : OwnE E k enc B w v l) : ∃ A cap, v = .slice A l.length cap := by
  rcases h.2 with ⟨rfl, h0⟩ | ⟨g, cap, cur, rfl, _⟩
  · exact ⟨none, 0, by rw [h0]⟩
  · exact ⟨_, _, rfl⟩
theorem OwnE.kept {row : Option Nat} (h : OwnE E k enc B w v l) (hg : w.grownBy w' row) (hne : v.ownBlock = none ∨ v.ownBlock ≠ row) : OwnE E k enc B w' v l := World.ownsRow.kept h hg hne
theorem OwnE.alloc (h : OwnE E k enc B w v l) (o : Obj) : OwnE E k enc B (w.alloc o) v l := World.ownsRow.alloc h o
theorem OwnE.drewN (h : OwnE E k enc B w v l) (n : Nat) : OwnE E k enc B (w.drewN n) v l := h
theorem OwnE.ext (h : OwnE E k enc B w v l) (he : Ext w w') : OwnE E k enc B w' v l := by
  refine World.ownsRow.kept h (row := none) ⟨he.below.os, he.below.tape, he.below.output, he.size, fun i hi _ => he.below.block i hi⟩ ?_
  cases v.ownBlock <;> simp
theorem OwnE.extGrown (h : OwnE E k enc B w v l) (hX : Ext w0 w) (hB : w0.heap.size ≤ B) (hg : w.grownBy w' v.ownBlock) : Ext w0 w' :=
  hX.grown hg (fun g hgg => Nat.le_trans hB (h.base g hgg))
theorem OwnE.cells (hk : ∀ x, (enc x).length = k) (_h0 : 0 < k) (h : OwnE E k enc B w v l) : ∃ A cap, v = .slice A l.length cap ∧ l.length ≤ cap ∧ cap ≤ maxLen ∧ ∀ j (h : j < l.length), ∃ b o, A = some ⟨b, o, none⟩ ∧ ∀ i, i < k → w.cell? ⟨b, o + j * k + i, none⟩ = (enc l[j])[i]? := by
  rcases h.2 with ⟨rfl, h0⟩ | ⟨g, cap, cur, rfl, _, hh, hn, hm, hs, ht⟩
  · exact ⟨none, 0, by rw [h0], by omega, by simp [maxLen], fun j hj => absurd hj (by omega)⟩
  · refine ⟨_, cap, rfl, hn, hm, fun j hj => ⟨g, 0, rfl, fun i hi => ?_⟩⟩
    have hlt : j * k + i < l.length * k := by
      have : (j + 1) * k ≤ l.length * k := Nat.mul_le_mul_right k hj
      rw [Nat.succ_mul] at this
      omega
    rw [Nat.zero_add, cell_of_row w g _ cur E (0, 0) hh, ← flat_get enc hk l j hj i hi, ← ht, List.getElem?_take, if_pos hlt]
    simp

/-- append of one element onto a row of the call's own -/
theorem wpList_appE {P : Program} {w : World} {ops : Array Oper} {rest : List Oper} {o : Oper} {a : Act} {Q : Exit → Act → World → Prop} (hgd : o.guard = none) (s x : Operand) (t : TypeId)
    (ho : o.op = .call { callee := .builtin .append, args := #[s, x], argTypes := #[t, t] })
    (E k B bytes : Nat) (z : Value) (enc : α → List Value) (ht : P.underlying t = some (.slice E)) (hinfo : (P.info? E).map (fun i => (i.zero, i.size, i.bytes)) = some (some z, k, bytes)) (hz : z.cells.size = k) (h0 : 0 < k) (hb : bytes ≤ 100)
    (hk : ∀ x, (enc x).length = k) (h1 : ∀ x, ∀ u ∈ enc x, u.oneCell' = true)
    (v : Value) (l : List α) (y : α) (g c : Nat) (hs : a.eval s = v) (hown : OwnE E k enc B w v l) (hx : a.eval x = .slice (some ⟨g, 0, none⟩) 1 c) (hc : ∀ i, i < k → w.cell? ⟨g, i, none⟩ = (enc y)[i]?)
    (hlen : l.length ≤ 1000000) (hbase : B ≤ w.heap.size)
    (h : ∀ A cap w', OwnE E k enc B w' (.slice A (l.length + 1) cap) (l ++ [y]) → w.grownBy w' v.ownBlock → (Value.ownBlock (.slice A (l.length + 1) cap) = v.ownBlock ∨ Value.ownBlock (.slice A (l.length + 1) cap) = some w.heap.size) → wpList P ops Q rest (a.put o.dst (.slice A (l.length + 1) cap)) w') :
    wpList P ops Q (o :: rest) a w := by
  obtain ⟨i, hi, hz0, hz1, hz2⟩ := info_parts hinfo
  refine wpList_append_own_at w hgd s x t ho B E i z k bytes ht hi hz0 hz1 hz2 hz h0 v l.length (l.flatMap enc) hs hown ⟨g, 0, none⟩ 1 c (enc y) hx (by rw [hk, Nat.one_mul]) ?_ (h1 y) ?_ ?_ hbase ?_
  · intro j u hu
    have hj : j < k := by rw [← hk y]; exact (List.getElem?_eq_some_iff.1 hu).1
    rw [addr_add0, Nat.zero_add, hc j hj]; exact hu
  · simp only [maxLen]; omega
  · have : (l.length + 1) * bytes ≤ (l.length + 1) * 100 := Nat.mul_le_mul_left _ hb
    omega
  · intro v' w' ho' hg _ hat
    have ho2 : OwnE E k enc B w' v' (l ++ [y]) := by unfold OwnE; simpa using ho'
    obtain ⟨A, cap, rfl⟩ := ho2.slice
    simp only [List.length_append, List.length_singleton] at ho2 hat ⊢
    exact h A cap w' ho2 hg hat
end

end Go.Proofs.YtiahfiopigjolaaGreat
