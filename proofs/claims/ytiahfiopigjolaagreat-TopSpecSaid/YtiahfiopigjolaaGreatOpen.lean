/- From the row's arguments to what the walk asks of them, and from the walk's end to the row's. -/
import Derived.Test.YtiahfiopigjolaaGreatRows
import Derived.Test.YtiahfiopigjolaaGreatTop
import Derived.ProofKit
import Derived.OpenShut
import Derived.Deep.Slices
import Derived.Deep.Fields
namespace Go.Proofs.YtiahfiopigjolaaGreat
open Go Go.ChangeShapes Go.WideShapes Go.ChangeAt Go.RowKit Go.Deep

theorem own : ownKnob Tryz.prog.godebug = none := by kernel_rfl
theorem kids : Kids Tryz.prog (· < Tryz.prog.types.size) := kids_rows (by kernel_rfl) (by kernel_rfl)
theorem full : ∀ t e, t < Tryz.prog.types.size → Tryz.prog.underlying t = some (.slice e) → 0 < Tryz.prog.cellsOf e := slices_full_of Tryz.prog (by kernel_rfl)
theorem cellsint : Tryz.prog.cellsOf 3 = 1 := by kernel_rfl
theorem cellsbool : Tryz.prog.cellsOf 4 = 1 := by kernel_rfl
theorem cellsstring : Tryz.prog.cellsOf 9 = 1 := by kernel_rfl
theorem cellsOps : Tryz.prog.cellsOf 27 = 1 := by kernel_rfl
theorem cellsSpots : Tryz.prog.cellsOf 42 = 1 := by kernel_rfl
theorem cellsints : Tryz.prog.cellsOf 23 = 1 := by kernel_rfl
theorem cellsstrings : Tryz.prog.cellsOf 22 = 1 := by kernel_rfl
theorem cellsNotches : Tryz.prog.cellsOf 41 = 1 := by kernel_rfl
theorem cellsEdges : Tryz.prog.cellsOf 38 = 1 := by kernel_rfl
theorem cellsPieces : Tryz.prog.cellsOf 24 = 1 := by kernel_rfl
theorem cellsUses : Tryz.prog.cellsOf 25 = 1 := by kernel_rfl
theorem cellsSeams : Tryz.prog.cellsOf 26 = 1 := by kernel_rfl
theorem cellsPoms : Tryz.prog.cellsOf 30 = 1 := by kernel_rfl
theorem cellsSpot : Tryz.prog.cellsOf 66 = 2 := by kernel_rfl
theorem cellsNotch : Tryz.prog.cellsOf 116 = 2 := by kernel_rfl
theorem cellsUse : Tryz.prog.cellsOf 58 = 3 := by kernel_rfl
theorem cellsSeam : Tryz.prog.cellsOf 55 = 6 := by kernel_rfl
theorem cellsEdge : Tryz.prog.cellsOf 48 = 2 := by kernel_rfl
theorem cellsPiece : Tryz.prog.cellsOf 44 = 7 := by kernel_rfl
theorem cellsPom : Tryz.prog.cellsOf 37 = 5 := by kernel_rfl
theorem cellsStyle : Tryz.prog.cellsOf 29 = 7 := by kernel_rfl
theorem undSpot : ∃ f0 f1 : Field, Tryz.prog.underlying 66 = some (.struct #[f0, f1]) ∧ (f0.offset = 0 ∧ f1.offset = 1) ∧ (f0.type = 3 ∧ f1.type = 3) := ⟨_, _, Tryz.underlying66, ⟨rfl, rfl⟩, rfl, rfl⟩
theorem undNotch : ∃ f0 f1 : Field, Tryz.prog.underlying 116 = some (.struct #[f0, f1]) ∧ (f0.offset = 0 ∧ f1.offset = 1) ∧ (f0.type = 3 ∧ f1.type = 3) := ⟨_, _, Tryz.underlying116, ⟨rfl, rfl⟩, rfl, rfl⟩
theorem undUse : ∃ f0 f1 f2 : Field, Tryz.prog.underlying 58 = some (.struct #[f0, f1, f2]) ∧ (f0.offset = 0 ∧ f1.offset = 1 ∧ f2.offset = 2) ∧ (f0.type = 3 ∧ f1.type = 3 ∧ f2.type = 4) := ⟨_, _, _, Tryz.underlying58, ⟨rfl, rfl, rfl⟩, rfl, rfl, rfl⟩
theorem undSeam : ∃ f0 f1 f2 f3 f4 f5 : Field, Tryz.prog.underlying 55 = some (.struct #[f0, f1, f2, f3, f4, f5]) ∧ (f0.offset = 0 ∧ f1.offset = 1 ∧ f2.offset = 2 ∧ f3.offset = 3 ∧ f4.offset = 4 ∧ f5.offset = 5) ∧ (f0.type = 3 ∧ f1.type = 3 ∧ f2.type = 3 ∧ f3.type = 3 ∧ f4.type = 4 ∧ f5.type = 3) := ⟨_, _, _, _, _, _, Tryz.underlying55, ⟨rfl, rfl, rfl, rfl, rfl, rfl⟩, rfl, rfl, rfl, rfl, rfl, rfl⟩
theorem undEdge : ∃ f0 f1 : Field, Tryz.prog.underlying 48 = some (.struct #[f0, f1]) ∧ (f0.offset = 0 ∧ f1.offset = 1) ∧ (f0.type = 9 ∧ f1.type = 42) := ⟨_, _, Tryz.underlying48, ⟨rfl, rfl⟩, rfl, rfl⟩
theorem undPiece : ∃ f0 f1 f2 f3 f4 f5 f6 : Field, Tryz.prog.underlying 44 = some (.struct #[f0, f1, f2, f3, f4, f5, f6]) ∧ (f0.offset = 0 ∧ f1.offset = 1 ∧ f2.offset = 2 ∧ f3.offset = 3 ∧ f4.offset = 4 ∧ f5.offset = 5 ∧ f6.offset = 6) ∧ (f0.type = 9 ∧ f1.type = 38 ∧ f2.type = 3 ∧ f3.type = 41 ∧ f4.type = 42 ∧ f5.type = 23 ∧ f6.type = 4) := ⟨_, _, _, _, _, _, _, Tryz.underlying44, ⟨rfl, rfl, rfl, rfl, rfl, rfl, rfl⟩, rfl, rfl, rfl, rfl, rfl, rfl, rfl⟩
theorem undPom : ∃ f0 f1 f2 f3 f4 : Field, Tryz.prog.underlying 37 = some (.struct #[f0, f1, f2, f3, f4]) ∧ (f0.offset = 0 ∧ f1.offset = 1 ∧ f2.offset = 2 ∧ f3.offset = 3 ∧ f4.offset = 4) ∧ (f0.type = 9 ∧ f1.type = 23 ∧ f2.type = 23 ∧ f3.type = 3 ∧ f4.type = 3) := ⟨_, _, _, _, _, Tryz.underlying37, ⟨rfl, rfl, rfl, rfl, rfl⟩, rfl, rfl, rfl, rfl, rfl⟩
theorem undStyle : ∃ f0 f1 f2 f3 f4 f5 f6 : Field, Tryz.prog.underlying 29 = some (.struct #[f0, f1, f2, f3, f4, f5, f6]) ∧ (f0.offset = 0 ∧ f1.offset = 1 ∧ f2.offset = 2 ∧ f3.offset = 3 ∧ f4.offset = 4 ∧ f5.offset = 5 ∧ f6.offset = 6) ∧ (f0.type = 9 ∧ f1.type = 22 ∧ f2.type = 23 ∧ f3.type = 24 ∧ f4.type = 25 ∧ f5.type = 26 ∧ f6.type = 27) := ⟨_, _, _, _, _, _, _, Tryz.underlying29, ⟨rfl, rfl, rfl, rfl, rfl, rfl, rfl⟩, rfl, rfl, rfl, rfl, rfl, rfl, rfl⟩

section
variable {H : Type} {enc : TypeId × Value → H} {w : World} {spare : Nat → Bool} {held : Bool}

theorem some_at {α : Type} {ys : List α} {n i : Nat} (hl : ys.length = n) (hi : i < n) : ∃ y, ys[i]? = some y := ⟨_, List.getElem?_eq_getElem (by omega)⟩
theorem int_trod {n : Nat} {c : Value} {x : Option (DataW H × List MemPlace)} (hx : ∃ y, x = some y) (h : DataW.trod enc Tryz.prog w 0 spare held n 3 [c] = x) : ∃ z, c = .int .i64 z := by
  obtain ⟨y, rfl⟩ := hx
  obtain ⟨z, e, _, _⟩ := DataW.trod_int Tryz.underlying3 h
  exact ⟨z, by simpa using e⟩
theorem bool_trod {n : Nat} {c : Value} {x : Option (DataW H × List MemPlace)} (hx : ∃ y, x = some y) (h : DataW.trod enc Tryz.prog w 0 spare held n 4 [c] = x) : ∃ z, c = .bool z := by
  obtain ⟨y, rfl⟩ := hx
  obtain ⟨z, e, _⟩ := DataW.trod_bool Tryz.underlying4 h
  exact ⟨z, by simpa using e⟩
theorem string_trod {n : Nat} {c : Value} {x : Option (DataW H × List MemPlace)} (hx : ∃ y, x = some y) (h : DataW.trod enc Tryz.prog w 0 spare held n 9 [c] = x) : ∃ z : ByteArray, c = .string z ∧ z.size ≤ maxLen := by
  obtain ⟨y, rfl⟩ := hx
  obtain ⟨z, e, _, hz⟩ := DataW.trod_string Tryz.underlying9 h
  exact ⟨z, by simpa using e, hz⟩

set_option maxRecDepth 100000 in
/-- a slice that came in reads as a list -/
theorem rdL_trod {α : Type} [Inhabited α] {k : Nat} {P : World → List Value → α → Prop} {T E : TypeId} (hu : Tryz.prog.underlying T = some (.slice E)) (hc : Tryz.prog.cellsOf E = k) (hk : 0 < k)
    (el : ∀ (n : Nat) (cs : List Value) (y : DataW H × List MemPlace), cs.length = k → DataW.trod enc Tryz.prog w 0 spare held n E cs = some y → ∃ a : α, P w cs a)
    {n : Nat} {v : Value} {x : Option (DataW H × List MemPlace)} (hx : ∃ y, x = some y) (h : DataW.trod enc Tryz.prog w 0 spare held n T [v] = x) : ∃ xs : List α, RdL k P w v xs := by
  obtain ⟨y, rfl⟩ := hx
  rcases open_slice hu h with ⟨hcs, _⟩ | ⟨a, len, cap, m, n', D, Pl', hcs, _, hl, hm, hmm, _, hi⟩
  · injection hcs with e
    subst e
    exact ⟨[], RdL.nil _ _ _⟩
  · injection hcs with e
    subst e
    have hlm : len ≤ m := by rw [hmm]; split <;> omega
    have each : ∀ i, i < len → ∃ x : α × List Value, P w x.2 x.1 ∧ x.2.length = k ∧ ∀ j, j < k → w.cell? (a.add (i * k + j)) = x.2[j]? := by
      intro i hil
      obtain ⟨cs', hc', ht⟩ := hi i (by omega)
      rw [hc] at hc'
      obtain ⟨_, hcl, hat⟩ := World.cells?_some hc'
      obtain ⟨p, hp⟩ := el _ _ _ hcl ht
      refine ⟨(p, cs'), hp, hcl, fun j hj => ?_⟩
      have := hat j hj
      rw [Go.Deep.add_add] at this
      exact this
    obtain ⟨f, hf⟩ := choose_lt each
    refine ⟨(List.range len).map fun i => (f i).1, some a, cap, by simp, by simpa using hl, hm, fun j hj => ?_⟩
    have hj' : j < len := by simpa using hj
    obtain ⟨h6, h7, h8⟩ := hf j hj'
    obtain ⟨b, o, sp⟩ := a
    have hs : sp = none := by
      obtain ⟨_, g0, g1⟩ := hf 0 (by omega)
      have g1 := g1 0 hk
      rw [List.getElem?_eq_getElem (by omega)] at g1
      simpa [Addr.add] using World.cell?_spot g1
    subst hs
    refine ⟨b, o, (f j).2, rfl, by simpa using h6, h7, fun i hi => ?_⟩
    have := h8 i hi
    rw [addr_add0] at this
    rw [Nat.add_assoc]; exact this
/-- the row of operations: its length alone is wanted -/
theorem ops_trod {n : Nat} {v : Value} {x : Option (DataW H × List MemPlace)} (hx : ∃ y, x = some y) (h : DataW.trod enc Tryz.prog w 0 spare held n 27 [v] = x) : ∃ k A c, v = .slice A k c ∧ k ≤ maxLen := by
  obtain ⟨y, rfl⟩ := hx
  rcases open_slice Tryz.underlying27 h with ⟨hcs, _⟩ | ⟨a, len, cap, m, n', D, Pl', hcs, _, hl, hm, _⟩
  · injection hcs with e
    exact ⟨0, none, 0, e, by decide⟩
  · injection hcs with e
    exact ⟨len, some a, cap, e, by omega⟩
theorem ints_trod {n : Nat} {v : Value} {x : Option (DataW H × List MemPlace)} (hx : ∃ y, x = some y) (h : DataW.trod enc Tryz.prog w 0 spare held n 23 [v] = x) : ∃ xs : List Int, RdL 1 inP w v xs :=
  rdL_trod Tryz.underlying23 cellsint (by decide) (fun _ cs y _ h => by
    obtain ⟨z, e, _, _⟩ := DataW.trod_int Tryz.underlying3 h
    exact ⟨z, e⟩) hx h
theorem strings_trod {n : Nat} {v : Value} {x : Option (DataW H × List MemPlace)} (hx : ∃ y, x = some y) (h : DataW.trod enc Tryz.prog w 0 spare held n 22 [v] = x) : ∃ xs : List ByteArray, RdL 1 stP w v xs :=
  rdL_trod Tryz.underlying22 cellsstring (by decide) (fun _ cs y _ h => by
    obtain ⟨z, e, _, hz⟩ := DataW.trod_string Tryz.underlying9 h
    exact ⟨z, e, hz⟩) hx h
set_option maxRecDepth 100000 in
theorem sp_trod {n : Nat} {cs : List Value} {x : DataW H × List MemPlace} (hc : cs.length = 2) (h : DataW.trod enc Tryz.prog w 0 spare held n 66 cs = some x) : ∃ s : Sp, spP w cs s := by
  match cs, hc with
  | [c0, c1], _ =>
    obtain ⟨f0, f1, hu, ⟨o0, o1⟩, e0, e1⟩ := undSpot
    obtain ⟨ys, m, _, _, _, hl, hf⟩ := DataW.trod_struct hu h
    have h0 := hf 0 f0 rfl
    rw [o0, e0, cellsint] at h0
    have h1 := hf 1 f1 rfl
    rw [o1, e1, cellsint] at h1
    obtain ⟨x0, rfl⟩ := int_trod (c := c0) (some_at hl (by simp)) h0
    obtain ⟨x1, rfl⟩ := int_trod (c := c1) (some_at hl (by simp)) h1
    exact ⟨⟨x0, x1⟩, rfl⟩
theorem Spots_trod {n : Nat} {v : Value} {x : Option (DataW H × List MemPlace)} (hx : ∃ y, x = some y) (h : DataW.trod enc Tryz.prog w 0 spare held n 42 [v] = x) : ∃ xs : List Sp, RdL 2 spP w v xs :=
  rdL_trod Tryz.underlying42 cellsSpot (by decide) (fun _ _ _ hc h => sp_trod hc h) hx h
set_option maxRecDepth 100000 in
theorem nt_trod {n : Nat} {cs : List Value} {x : DataW H × List MemPlace} (hc : cs.length = 2) (h : DataW.trod enc Tryz.prog w 0 spare held n 116 cs = some x) : ∃ s : Nt, ntP w cs s := by
  match cs, hc with
  | [c0, c1], _ =>
    obtain ⟨f0, f1, hu, ⟨o0, o1⟩, e0, e1⟩ := undNotch
    obtain ⟨ys, m, _, _, _, hl, hf⟩ := DataW.trod_struct hu h
    have h0 := hf 0 f0 rfl
    rw [o0, e0, cellsint] at h0
    have h1 := hf 1 f1 rfl
    rw [o1, e1, cellsint] at h1
    obtain ⟨x0, rfl⟩ := int_trod (c := c0) (some_at hl (by simp)) h0
    obtain ⟨x1, rfl⟩ := int_trod (c := c1) (some_at hl (by simp)) h1
    exact ⟨⟨x0, x1⟩, rfl⟩
theorem Notches_trod {n : Nat} {v : Value} {x : Option (DataW H × List MemPlace)} (hx : ∃ y, x = some y) (h : DataW.trod enc Tryz.prog w 0 spare held n 41 [v] = x) : ∃ xs : List Nt, RdL 2 ntP w v xs :=
  rdL_trod Tryz.underlying41 cellsNotch (by decide) (fun _ _ _ hc h => nt_trod hc h) hx h
set_option maxRecDepth 100000 in
theorem us_trod {n : Nat} {cs : List Value} {x : DataW H × List MemPlace} (hc : cs.length = 3) (h : DataW.trod enc Tryz.prog w 0 spare held n 58 cs = some x) : ∃ s : Us, usP w cs s := by
  match cs, hc with
  | [c0, c1, c2], _ =>
    obtain ⟨f0, f1, f2, hu, ⟨o0, o1, o2⟩, e0, e1, e2⟩ := undUse
    obtain ⟨ys, m, _, _, _, hl, hf⟩ := DataW.trod_struct hu h
    have h0 := hf 0 f0 rfl
    rw [o0, e0, cellsint] at h0
    have h1 := hf 1 f1 rfl
    rw [o1, e1, cellsint] at h1
    have h2 := hf 2 f2 rfl
    rw [o2, e2, cellsbool] at h2
    obtain ⟨x0, rfl⟩ := int_trod (c := c0) (some_at hl (by simp)) h0
    obtain ⟨x1, rfl⟩ := int_trod (c := c1) (some_at hl (by simp)) h1
    obtain ⟨x2, rfl⟩ := bool_trod (c := c2) (some_at hl (by simp)) h2
    exact ⟨⟨x0, x1, x2⟩, rfl⟩
theorem Uses_trod {n : Nat} {v : Value} {x : Option (DataW H × List MemPlace)} (hx : ∃ y, x = some y) (h : DataW.trod enc Tryz.prog w 0 spare held n 25 [v] = x) : ∃ xs : List Us, RdL 3 usP w v xs :=
  rdL_trod Tryz.underlying25 cellsUse (by decide) (fun _ _ _ hc h => us_trod hc h) hx h
set_option maxRecDepth 100000 in
theorem sm_trod {n : Nat} {cs : List Value} {x : DataW H × List MemPlace} (hc : cs.length = 6) (h : DataW.trod enc Tryz.prog w 0 spare held n 55 cs = some x) : ∃ s : Sm, smP w cs s := by
  match cs, hc with
  | [c0, c1, c2, c3, c4, c5], _ =>
    obtain ⟨f0, f1, f2, f3, f4, f5, hu, ⟨o0, o1, o2, o3, o4, o5⟩, e0, e1, e2, e3, e4, e5⟩ := undSeam
    obtain ⟨ys, m, _, _, _, hl, hf⟩ := DataW.trod_struct hu h
    have h0 := hf 0 f0 rfl
    rw [o0, e0, cellsint] at h0
    have h1 := hf 1 f1 rfl
    rw [o1, e1, cellsint] at h1
    have h2 := hf 2 f2 rfl
    rw [o2, e2, cellsint] at h2
    have h3 := hf 3 f3 rfl
    rw [o3, e3, cellsint] at h3
    have h4 := hf 4 f4 rfl
    rw [o4, e4, cellsbool] at h4
    have h5 := hf 5 f5 rfl
    rw [o5, e5, cellsint] at h5
    obtain ⟨x0, rfl⟩ := int_trod (c := c0) (some_at hl (by simp)) h0
    obtain ⟨x1, rfl⟩ := int_trod (c := c1) (some_at hl (by simp)) h1
    obtain ⟨x2, rfl⟩ := int_trod (c := c2) (some_at hl (by simp)) h2
    obtain ⟨x3, rfl⟩ := int_trod (c := c3) (some_at hl (by simp)) h3
    obtain ⟨x4, rfl⟩ := bool_trod (c := c4) (some_at hl (by simp)) h4
    obtain ⟨x5, rfl⟩ := int_trod (c := c5) (some_at hl (by simp)) h5
    exact ⟨⟨x0, x1, x2, x3, x4, x5⟩, rfl⟩
theorem Seams_trod {n : Nat} {v : Value} {x : Option (DataW H × List MemPlace)} (hx : ∃ y, x = some y) (h : DataW.trod enc Tryz.prog w 0 spare held n 26 [v] = x) : ∃ xs : List Sm, RdL 6 smP w v xs :=
  rdL_trod Tryz.underlying26 cellsSeam (by decide) (fun _ _ _ hc h => sm_trod hc h) hx h
set_option maxRecDepth 100000 in
theorem ed_trod {n : Nat} {cs : List Value} {x : DataW H × List MemPlace} (hc : cs.length = 2) (h : DataW.trod enc Tryz.prog w 0 spare held n 48 cs = some x) : ∃ s : Ed, edP w cs s := by
  match cs, hc with
  | [c0, c1], _ =>
    obtain ⟨f0, f1, hu, ⟨o0, o1⟩, e0, e1⟩ := undEdge
    obtain ⟨ys, m, _, _, _, hl, hf⟩ := DataW.trod_struct hu h
    have h0 := hf 0 f0 rfl
    rw [o0, e0, cellsstring] at h0
    have h1 := hf 1 f1 rfl
    rw [o1, e1, cellsSpots] at h1
    obtain ⟨x0, rfl, z0⟩ := string_trod (c := c0) (some_at hl (by simp)) h0
    obtain ⟨x1, r1⟩ := Spots_trod (v := c1) (some_at hl (by simp)) h1
    exact ⟨⟨x0, x1⟩, c1, rfl, r1, z0⟩
theorem Edges_trod {n : Nat} {v : Value} {x : Option (DataW H × List MemPlace)} (hx : ∃ y, x = some y) (h : DataW.trod enc Tryz.prog w 0 spare held n 38 [v] = x) : ∃ xs : List Ed, RdL 2 edP w v xs :=
  rdL_trod Tryz.underlying38 cellsEdge (by decide) (fun _ _ _ hc h => ed_trod hc h) hx h
set_option maxRecDepth 100000 in
theorem pc_trod {n : Nat} {cs : List Value} {x : DataW H × List MemPlace} (hc : cs.length = 7) (h : DataW.trod enc Tryz.prog w 0 spare held n 44 cs = some x) : ∃ s : Pc, pcP w cs s := by
  match cs, hc with
  | [c0, c1, c2, c3, c4, c5, c6], _ =>
    obtain ⟨f0, f1, f2, f3, f4, f5, f6, hu, ⟨o0, o1, o2, o3, o4, o5, o6⟩, e0, e1, e2, e3, e4, e5, e6⟩ := undPiece
    obtain ⟨ys, m, _, _, _, hl, hf⟩ := DataW.trod_struct hu h
    have h0 := hf 0 f0 rfl
    rw [o0, e0, cellsstring] at h0
    have h1 := hf 1 f1 rfl
    rw [o1, e1, cellsEdges] at h1
    have h2 := hf 2 f2 rfl
    rw [o2, e2, cellsint] at h2
    have h3 := hf 3 f3 rfl
    rw [o3, e3, cellsNotches] at h3
    have h4 := hf 4 f4 rfl
    rw [o4, e4, cellsSpots] at h4
    have h5 := hf 5 f5 rfl
    rw [o5, e5, cellsints] at h5
    have h6 := hf 6 f6 rfl
    rw [o6, e6, cellsbool] at h6
    obtain ⟨x0, rfl, z0⟩ := string_trod (c := c0) (some_at hl (by simp)) h0
    obtain ⟨x1, r1⟩ := Edges_trod (v := c1) (some_at hl (by simp)) h1
    obtain ⟨x2, rfl⟩ := int_trod (c := c2) (some_at hl (by simp)) h2
    obtain ⟨x3, r3⟩ := Notches_trod (v := c3) (some_at hl (by simp)) h3
    obtain ⟨x4, r4⟩ := Spots_trod (v := c4) (some_at hl (by simp)) h4
    obtain ⟨x5, r5⟩ := ints_trod (v := c5) (some_at hl (by simp)) h5
    obtain ⟨x6, rfl⟩ := bool_trod (c := c6) (some_at hl (by simp)) h6
    exact ⟨⟨x0, x1, x2, x3, x4, x5, x6⟩, c1, c3, c4, c5, rfl, r1, r3, r4, r5, z0⟩
theorem Pieces_trod {n : Nat} {v : Value} {x : Option (DataW H × List MemPlace)} (hx : ∃ y, x = some y) (h : DataW.trod enc Tryz.prog w 0 spare held n 24 [v] = x) : ∃ xs : List Pc, RdL 7 pcP w v xs :=
  rdL_trod Tryz.underlying24 cellsPiece (by decide) (fun _ _ _ hc h => pc_trod hc h) hx h
set_option maxRecDepth 100000 in
theorem pm_trod {n : Nat} {cs : List Value} {x : DataW H × List MemPlace} (hc : cs.length = 5) (h : DataW.trod enc Tryz.prog w 0 spare held n 37 cs = some x) : ∃ s : Pm, pmP w cs s := by
  match cs, hc with
  | [c0, c1, c2, c3, c4], _ =>
    obtain ⟨f0, f1, f2, f3, f4, hu, ⟨o0, o1, o2, o3, o4⟩, e0, e1, e2, e3, e4⟩ := undPom
    obtain ⟨ys, m, _, _, _, hl, hf⟩ := DataW.trod_struct hu h
    have h0 := hf 0 f0 rfl
    rw [o0, e0, cellsstring] at h0
    have h1 := hf 1 f1 rfl
    rw [o1, e1, cellsints] at h1
    have h2 := hf 2 f2 rfl
    rw [o2, e2, cellsints] at h2
    have h3 := hf 3 f3 rfl
    rw [o3, e3, cellsint] at h3
    have h4 := hf 4 f4 rfl
    rw [o4, e4, cellsint] at h4
    obtain ⟨x0, rfl, z0⟩ := string_trod (c := c0) (some_at hl (by simp)) h0
    obtain ⟨x1, r1⟩ := ints_trod (v := c1) (some_at hl (by simp)) h1
    obtain ⟨x2, r2⟩ := ints_trod (v := c2) (some_at hl (by simp)) h2
    obtain ⟨x3, rfl⟩ := int_trod (c := c3) (some_at hl (by simp)) h3
    obtain ⟨x4, rfl⟩ := int_trod (c := c4) (some_at hl (by simp)) h4
    exact ⟨⟨x0, x1, x2, x3, x4⟩, c1, c2, rfl, r1, r2, z0⟩
theorem Poms_trod {n : Nat} {v : Value} {x : Option (DataW H × List MemPlace)} (hx : ∃ y, x = some y) (h : DataW.trod enc Tryz.prog w 0 spare held n 30 [v] = x) : ∃ xs : List Pm, RdL 5 pmP w v xs :=
  rdL_trod Tryz.underlying30 cellsPom (by decide) (fun _ _ _ hc h => pm_trod hc h) hx h
set_option maxRecDepth 100000 in
theorem st_trod {n : Nat} {cs : List Value} {x : DataW H × List MemPlace} (hc : cs.length = 7) (h : DataW.trod enc Tryz.prog w 0 spare held n 29 cs = some x) : ∃ (s : St) (v1 v2 v3 v4 v5 v6 : Value), cs = stC s v1 v2 v3 v4 v5 v6 ∧ StR w s v1 v2 v3 v4 v5 v6 := by
  match cs, hc with
  | [c0, c1, c2, c3, c4, c5, c6], _ =>
    obtain ⟨f0, f1, f2, f3, f4, f5, f6, hu, ⟨o0, o1, o2, o3, o4, o5, o6⟩, e0, e1, e2, e3, e4, e5, e6⟩ := undStyle
    obtain ⟨ys, m, _, _, _, hl, hf⟩ := DataW.trod_struct hu h
    have h0 := hf 0 f0 rfl
    rw [o0, e0, cellsstring] at h0
    have h1 := hf 1 f1 rfl
    rw [o1, e1, cellsstrings] at h1
    have h2 := hf 2 f2 rfl
    rw [o2, e2, cellsints] at h2
    have h3 := hf 3 f3 rfl
    rw [o3, e3, cellsPieces] at h3
    have h4 := hf 4 f4 rfl
    rw [o4, e4, cellsUses] at h4
    have h5 := hf 5 f5 rfl
    rw [o5, e5, cellsSeams] at h5
    have h6 := hf 6 f6 rfl
    rw [o6, e6, cellsOps] at h6
    obtain ⟨x0, rfl, z0⟩ := string_trod (c := c0) (some_at hl (by simp)) h0
    obtain ⟨x1, r1⟩ := strings_trod (v := c1) (some_at hl (by simp)) h1
    obtain ⟨x2, r2⟩ := ints_trod (v := c2) (some_at hl (by simp)) h2
    obtain ⟨x3, r3⟩ := Pieces_trod (v := c3) (some_at hl (by simp)) h3
    obtain ⟨x4, r4⟩ := Uses_trod (v := c4) (some_at hl (by simp)) h4
    obtain ⟨x5, r5⟩ := Seams_trod (v := c5) (some_at hl (by simp)) h5
    obtain ⟨x6, A6, b6, rfl, z6⟩ := ops_trod (v := c6) (some_at hl (by simp)) h6
    exact ⟨⟨x0, x1, x2, x3, x4, x5, x6⟩, c1, c2, c3, c4, c5, .slice A6 x6 b6, rfl, r1, r2, r3, r4, r5, ⟨A6, b6, rfl, z6⟩, z0⟩

theorem trodAll_carry {w' : World} (hb : Below w.heap.size w w') : ∀ {ts : List TypeId} {vs : List Value} {ds : List (DataW H)} {p : List MemPlace}, DataW.TrodAll enc Tryz.prog w 0 spare held ts vs ds p → DataW.TrodAll enc Tryz.prog w' 0 spare held ts vs ds p
  | [], _, _, _, h => by
    obtain ⟨rfl, rfl, rfl⟩ := trodAll_nil h
    exact rfl
  | _ :: _, _, _, _, h => by
    obtain ⟨v, vs1, d, ds1, a, b, rfl, rfl, rfl, ⟨n, hn⟩, h2⟩ := trodAll_cons h
    exact ⟨a, b, ⟨n, DataW.trod_carry n _ _ _ hn (fun p hp => hb.same (DataW.trod_lt n _ _ _ hn p hp))⟩, trodAll_carry hb h2, rfl⟩
end

section
variable {H : Type} {enc : TypeId × Value → H}
set_option maxRecDepth 100000 in
/-- A law that came back true and left alone what lay there has answered as its row says. -/
theorem post_true {f : Func} {s : ChangeSpec} {W W' : World} {args : Array Value} {ds : List (DataW H)} {p : List MemPlace} (hvs : s.vars = []) (hr : f.resultTypes = #[4])
    (hs : s.fn H (ds ++ []) = { results := [.lit (.bool true)], args := ds }) (hT : ∀ t ∈ f.params.toList, t < Tryz.prog.types.size)
    (hW : DataW.Whole enc Tryz.prog f.params.toList s.vars false W args.toList ds [] p)
    (hA : DataW.TrodAll enc Tryz.prog W 0 (fun _ => true) true f.params.toList args.toList ds p) (hb : Ext W W') :
    s.post enc Tryz.prog f false true false false W args (.bool true) W' := by
  have hb : Below W.heap.size W W' := hb
  have hold : ∀ q ∈ p, (fun b => decide (b < W.heap.size)) q.block = true := fun q hq => by simpa using hW.lt q hq
  have hres : ∀ (b : Nat) (sp : Nat → Bool) (hd : Bool), DataW.TrodAll enc Tryz.prog W' b sp hd f.resultTypes.toList ((Value.bool true).resultList f.resultTypes.size) (s.fn H (ds ++ [])).results [] := by
    intro b sp hd
    rw [hs, hr]
    exact trodAll_cons_mk (shut_bool Tryz.underlying4 _) trodAll_mk0
  have hargs : ∀ sp : Nat → Bool, (∀ q ∈ p, sp q.block = true) → DataW.TrodAll enc Tryz.prog W' 0 sp true f.params.toList args.toList (s.fn H (ds ++ [])).args p := by
    intro sp hsp
    rw [hs]
    exact DataW.TrodAll.respare kids full hT (trodAll_carry hb hA) hsp
  have hvars : ∀ sp : Nat → Bool, DataW.TrodVars enc Tryz.prog W' sp s.vars (s.fn H (ds ++ [])).vars [] := by
    intro sp
    rw [hs, hvs]
    rfl
  have hok : ∀ (j : Nat) (t : TypeId) (r : Value), f.resultTypes[j]? = some t → ((Value.bool true).resultList f.resultTypes.size)[j]? = some r → Value.okWide Tryz.prog W' .any 0 t r := by
    rw [hr]
    exact ok_one (f := { f with resultTypes := #[4] }) rfl rfl (okWide_bool_mk Tryz.underlying4 _)
  refine ⟨ds, [], p, [], p, [], hW, hres _ _ _, hargs _ hold, hvars _, World.keptBut_mono (fun q hq => ⟨hq, by simpa using hq⟩) (hb.frame (· ∈ p)), fun _ => ?_⟩
  obtain ⟨_, _, _, _, _, hz, hn⟩ := hW
  refine ⟨hok, _, _, ([] ++ p) ++ [], ⟨[] ++ p, [], trodAll_append (hargs _ (fun _ _ => rfl)) (hres _ _ _), hvars _, rfl, ?_, ?_⟩, ?_⟩
  · intro b off hp
    have hin : MemPlace.cell b off ∈ p := by simpa using hp
    have hlt : b < W.heap.size := of_decide_eq_true (hold _ hin)
    rw [hb.frozen hlt]
    exact hz b off hin
  · intro ha; cases ha
  · intro q hq _
    simpa using hq
end

end Go.Proofs.YtiahfiopigjolaaGreat
