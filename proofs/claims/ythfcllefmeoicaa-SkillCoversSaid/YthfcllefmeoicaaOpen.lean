/- From a row's arguments to what the walks ask of them, and from a walk's end to the row's. -/
import Derived.Test.YthfcllefmeoicaaRows
import Derived.Test.YthfcllefmeoicaaAli
import Derived.ProofKit
import Derived.OpenShut
import Derived.Deep.Slices
import Derived.Deep.Fields
namespace Go.Proofs.Ythfcllefmeoicaa
open Go.ChangeShapes Go.WideShapes Go.ChangeAt Go.RowKit Go.Deep

theorem own : ownKnob Try.prog.godebug = none := by kernel_rfl
theorem kids : Kids Try.prog (· < Try.prog.types.size) := kids_rows (by kernel_rfl) (by kernel_rfl)
theorem full : ∀ t e, t < Try.prog.types.size → Try.prog.underlying t = some (.slice e) → 0 < Try.prog.cellsOf e := slices_full_of Try.prog (by kernel_rfl)
theorem cells3 : Try.prog.cellsOf 3 = 1 := by kernel_rfl
theorem cells28 : Try.prog.cellsOf 28 = 2 := by kernel_rfl
theorem und28 : ∃ f0 f1 : Field, Try.prog.underlying 28 = some (.struct #[f0, f1]) ∧ f0.offset = 0 ∧ f1.offset = 1 ∧ f0.type = 9 ∧ f1.type = 26 := ⟨_, _, Try.underlying28, rfl, rfl, rfl, rfl⟩
theorem cells9 : Try.prog.cellsOf 9 = 1 := by kernel_rfl
theorem cells26 : Try.prog.cellsOf 26 = 1 := by kernel_rfl

section
variable {H : Type} {enc : TypeId × Value → H} {w : World} {spare : Nat → Bool} {held : Bool}

/-- a slice of numbers that came in -/
theorem rdI_trod {n : Nat} {v : Value} {x : DataW H × List MemPlace} (h : DataW.trod enc Try.prog w 0 spare held n 26 [v] = some x) : ∃ xs : List Int, RdI w v xs ∧ ∀ y ∈ xs, (Lit.int .i64 y).wf = true := by
  rcases open_ints Try.underlying26 Try.underlying3 cells3 h with ⟨hcs, _⟩ | ⟨a, len, cap, zs, hcs, _, hl, hm, hz, _, hcell, hwz⟩
  · injection hcs with e
    subst e
    exact ⟨[], RdI.nil w, fun _ h => by cases h⟩
  · injection hcs with e
    subst e
    have hlz : len ≤ zs.length := by rw [hz]; split <;> omega
    have hlen : (zs.take len).length = len := by simp; omega
    refine ⟨zs.take len, ⟨some a, cap, by rw [hlen], by omega, hm, fun j hj => ?_⟩, fun y hy => hwz y (List.mem_of_mem_take hy)⟩
    have hc := hcell j (by omega)
    obtain ⟨b, o, sp⟩ := a
    have hs : sp = none := by simpa [Addr.add] using World.cell?_spot (hcell 0 (by omega))
    subst hs
    rw [addr_add0] at hc
    refine ⟨b, o, rfl, hc.trans ?_⟩
    rw [List.getElem_take, List.getD_eq_getElem?_getD, List.getElem?_eq_getElem (by omega)]; rfl

set_option maxRecDepth 100000 in
/-- a slice of workers that came in -/
theorem rdW_trod {n : Nat} {v : Value} {x : DataW H × List MemPlace} (h : DataW.trod enc Try.prog w 0 spare held n 22 [v] = some x) : ∃ ws : List Wk, RdW w v ws := by
  rcases open_slice Try.underlying22 h with ⟨hcs, _⟩ | ⟨a, len, cap, m, n', D, Pl, hcs, _, hl, hm, hmm, _, hi⟩
  · injection hcs with e
    subst e
    exact ⟨[], none, 0, rfl, by simp, by simp [maxLen], fun j h => absurd h (by simp)⟩
  · injection hcs with e
    subst e
    have hlm : len ≤ m := by rw [hmm]; split <;> omega
    have each : ∀ i, i < len → ∃ (x : Wk) (mv : Value), w.cell? (a.add (i * 2)) = some (.string x.name) ∧ w.cell? (a.add (i * 2 + 1)) = some mv ∧ RdI w mv x.mach ∧ x.name.size ≤ maxLen := by
      intro i hil
      obtain ⟨cs', hc, ht⟩ := hi i (by omega)
      rw [cells28] at hc
      obtain ⟨f0, f1, hu, o0, o1, t0, t1⟩ := und28
      obtain ⟨ys, n2, _, _, hcl, _, hf⟩ := DataW.trod_struct hu ht
      rw [cells28] at hcl
      obtain ⟨_, _, hat⟩ := World.cells?_some hc
      match cs', hcl with
      | [c0, c1], _ =>
        have h0 := hf 0 f0 rfl
        have h1 := hf 1 f1 rfl
        rw [o0, t0, cells9] at h0
        rw [o1, t1, cells26] at h1
        have a0 := hat 0 (by omega)
        have a1 := hat 1 (by omega)
        have hy0 : ∃ y0, ys[0]? = some y0 := by
          rcases hys : ys[0]? with _ | y
          · have : ys.length = 2 := by simpa using ‹ys.length = _›
            rw [List.getElem?_eq_none_iff] at hys; omega
          · exact ⟨y, rfl⟩
        have hy1 : ∃ y1, ys[1]? = some y1 := by
          rcases hys : ys[1]? with _ | y
          · have : ys.length = 2 := by simpa using ‹ys.length = _›
            rw [List.getElem?_eq_none_iff] at hys; omega
          · exact ⟨y, rfl⟩
        obtain ⟨y0, hy0⟩ := hy0
        obtain ⟨y1, hy1⟩ := hy1
        rw [hy0] at h0
        rw [hy1] at h1
        obtain ⟨s, es, _, hsz⟩ := DataW.trod_string Try.underlying9 h0
        obtain ⟨xs, hx, _⟩ := rdI_trod (v := c1) h1
        have ec : c0 = .string s := by simpa using es
        subst ec
        rw [Go.Deep.add_add] at a0 a1
        exact ⟨⟨s, xs⟩, c1, by simpa using a0, by simpa using a1, hx, hsz⟩
    have hall : ∃ f : Nat → Wk, ∀ i, i < len → ∃ mv : Value, w.cell? (a.add (i * 2)) = some (.string (f i).name) ∧ w.cell? (a.add (i * 2 + 1)) = some mv ∧ RdI w mv (f i).mach ∧ (f i).name.size ≤ maxLen := by
      refine ⟨fun i => if h : i < len then (each i h).choose else ⟨ByteArray.empty, []⟩, fun i h => ?_⟩
      simp only [dif_pos h]
      exact (each i h).choose_spec
    obtain ⟨f, hf⟩ := hall
    refine ⟨(List.range len).map f, some a, cap, by simp, by simpa using hl, hm, fun j hj => ?_⟩
    have hj' : j < len := by simpa using hj
    obtain ⟨mv, h1, h2, h3, h4⟩ := hf j hj'
    obtain ⟨b, o, sp⟩ := a
    have hs : sp = none := by
      obtain ⟨_, g1, _⟩ := hf 0 (by omega)
      simpa [Addr.add] using World.cell?_spot g1
    subst hs
    rw [addr_add0] at h1 h2
    simp only [List.getElem_map, List.getElem_range]
    exact ⟨b, o, mv, rfl, h1, by rw [Nat.add_assoc]; exact h2, h3, h4⟩

theorem trodAll_carry {w' : World} (hb : Below w.heap.size w w') : ∀ {ts : List TypeId} {vs : List Value} {ds : List (DataW H)} {p : List MemPlace}, DataW.TrodAll enc Try.prog w 0 spare held ts vs ds p → DataW.TrodAll enc Try.prog w' 0 spare held ts vs ds p
  | [], _, _, _, h => by
    obtain ⟨rfl, rfl, rfl⟩ := trodAll_nil h
    exact rfl
  | _ :: _, _, _, _, h => by
    obtain ⟨v, vs1, d, ds1, a, b, rfl, rfl, rfl, ⟨n, hn⟩, h2⟩ := trodAll_cons h
    exact ⟨a, b, ⟨n, DataW.trod_carry n _ _ _ hn (fun p hp => hb.same (DataW.trod_lt n _ _ _ hn p hp))⟩, trodAll_carry hb h2, rfl⟩
end

section
variable {H : Type} {enc : TypeId × Value → H}
set_option maxRecDepth 100000 in
/-- A law that came back true and left alone what lay there has answered as its row says. -/
theorem post_true {f : Func} {s : ChangeSpec} {W W' : World} {args : Array Value} {ds : List (DataW H)} {p : List MemPlace} (hvs : s.vars = []) (hr : f.resultTypes = #[4])
    (hs : s.fn H (ds ++ []) = { results := [.lit (.bool true)], args := ds }) (hT : ∀ t ∈ f.params.toList, t < Try.prog.types.size)
    (hW : DataW.Whole enc Try.prog f.params.toList s.vars false W args.toList ds [] p)
    (hA : DataW.TrodAll enc Try.prog W 0 (fun _ => true) true f.params.toList args.toList ds p) (hb : Ext W W') :
    s.post enc Try.prog f false true false false W args (.bool true) W' := by
  have hb : Below W.heap.size W W' := hb
  have hold : ∀ q ∈ p, (fun b => decide (b < W.heap.size)) q.block = true := fun q hq => by simpa using hW.lt q hq
  have hres : ∀ (b : Nat) (sp : Nat → Bool) (hd : Bool), DataW.TrodAll enc Try.prog W' b sp hd f.resultTypes.toList ((Value.bool true).resultList f.resultTypes.size) (s.fn H (ds ++ [])).results [] := by
    intro b sp hd
    rw [hs, hr]
    exact trodAll_cons_mk (shut_bool Try.underlying4 _) trodAll_mk0
  have hargs : ∀ sp : Nat → Bool, (∀ q ∈ p, sp q.block = true) → DataW.TrodAll enc Try.prog W' 0 sp true f.params.toList args.toList (s.fn H (ds ++ [])).args p := by
    intro sp hsp
    rw [hs]
    exact DataW.TrodAll.respare kids full hT (trodAll_carry hb hA) hsp
  have hvars : ∀ sp : Nat → Bool, DataW.TrodVars enc Try.prog W' sp s.vars (s.fn H (ds ++ [])).vars [] := by
    intro sp
    rw [hs, hvs]
    rfl
  have hok : ∀ (j : Nat) (t : TypeId) (r : Value), f.resultTypes[j]? = some t → ((Value.bool true).resultList f.resultTypes.size)[j]? = some r → Value.okWide Try.prog W' .any 0 t r := by
    rw [hr]
    exact ok_one (f := { f with resultTypes := #[4] }) rfl rfl (okWide_bool_mk Try.underlying4 _)
  refine ⟨ds, [], p, [], p, [], hW, hres _ _ _, hargs _ hold, hvars _, World.keptBut_mono (fun q hq => ⟨hq, by simpa using hq⟩) (hb.frame (· ∈ p)), fun _ => ?_⟩
  obtain ⟨_, _, _, _, _, hz, hn⟩ := hW
  refine ⟨hok, _, _, ([] ++ p) ++ [], ⟨[] ++ p, [], trodAll_append (hargs _ (fun _ _ => rfl)) (hres _ _ _), hvars _, rfl, ?_, ?_⟩, ?_⟩
  · intro b off hp
    have hin : MemPlace.cell b off ∈ p := by simpa using hp
    have hlt : b < W.heap.size := of_decide_eq_true (hold _ hin)
    rw [hb.frozen hlt]
    exact hz b off hin
  · intro ha; cases ha
  · intro q hq _
    simpa using hq
end
end Go.Proofs.Ythfcllefmeoicaa
