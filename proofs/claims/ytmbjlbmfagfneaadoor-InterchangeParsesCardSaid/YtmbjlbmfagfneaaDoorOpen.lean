/- From a row's arguments and its listed variables to what the walks ask of them, and from a walk's end to the row's. -/
import Derived.Test.YtmbjlbmfagfneaaDoorTie
import Derived.Test.YtmbjlbmfagfneaaDoorAwk
import Derived.ProofKit
import Derived.OpenShut
import Derived.Deep.Slices
import Derived.Deep.Fields
import Derived.LaidMore
import Derived.Lay
import Derived.SevenTiedAt
import Derived.Stop.Joined
import Derived.Stop.LaidErr
import Derived.Lib.LaidTab
import Derived.Shelf.Vars
namespace Go.Proofs.YtmbjlbmfagfneaaDoor
open Go Go.ChangeShapes Go.WideShapes Go.ChangeAt Go.RowKit Go.Deep

theorem own : ownKnob Tryd.prog.godebug = none := by kernel_rfl
theorem kids : Kids Tryd.prog (· < Tryd.prog.types.size) := kids_rows (by kernel_rfl) (by kernel_rfl)
theorem full : ∀ t e, t < Tryd.prog.types.size → Tryd.prog.underlying t = some (.slice e) → 0 < Tryd.prog.cellsOf e := slices_full_of Tryd.prog (by kernel_rfl)
theorem cells3 : Tryd.prog.cellsOf 3 = 1 := by kernel_rfl
theorem cells4 : Tryd.prog.cellsOf 4 = 1 := by kernel_rfl
theorem cells46 : Tryd.prog.cellsOf 46 = 7 := by kernel_rfl
theorem cells27 : Tryd.prog.cellsOf 27 = 6 := by kernel_rfl
theorem cells23 : Tryd.prog.cellsOf 23 = 2 := by kernel_rfl
theorem cells43 : Tryd.prog.cellsOf 43 = 2 := by kernel_rfl
theorem cells44 : Tryd.prog.cellsOf 44 = 2 := by kernel_rfl
theorem cells24 : Tryd.prog.cellsOf 24 = 1 := by kernel_rfl
theorem cells25 : Tryd.prog.cellsOf 25 = 1 := by kernel_rfl
theorem und27 : ∃ f0 f1 f2 f3 f4 : Field, Tryd.prog.underlying 27 = some (.struct #[f0, f1, f2, f3, f4]) ∧ (f0.offset = 0 ∧ f1.offset = 1 ∧ f2.offset = 2 ∧ f3.offset = 4 ∧ f4.offset = 5) ∧ (f0.type = 3 ∧ f1.type = 3 ∧ f2.type = 23 ∧ f3.type = 24 ∧ f4.type = 25) := ⟨_, _, _, _, _, Tryd.underlying27, ⟨rfl, rfl, rfl, rfl, rfl⟩, rfl, rfl, rfl, rfl, rfl⟩
theorem und46 : ∃ f0 f1 f2 f3 f4 : Field, Tryd.prog.underlying 46 = some (.struct #[f0, f1, f2, f3, f4]) ∧ (f0.offset = 0 ∧ f1.offset = 1 ∧ f2.offset = 2 ∧ f3.offset = 3 ∧ f4.offset = 5) ∧ (f0.type = 3 ∧ f1.type = 3 ∧ f2.type = 3 ∧ f3.type = 43 ∧ f4.type = 44) := ⟨_, _, _, _, _, Tryd.underlying46, ⟨rfl, rfl, rfl, rfl, rfl⟩, rfl, rfl, rfl, rfl, rfl⟩
theorem und23 : ∃ f0 f1 : Field, Tryd.prog.underlying 23 = some (.struct #[f0, f1]) ∧ f0.offset = 0 ∧ f1.offset = 1 ∧ f0.type = 3 ∧ f1.type = 3 := ⟨_, _, Tryd.underlying23, rfl, rfl, rfl, rfl⟩
theorem und43 : ∃ f0 f1 : Field, Tryd.prog.underlying 43 = some (.struct #[f0, f1]) ∧ f0.offset = 0 ∧ f1.offset = 1 ∧ f0.type = 4 ∧ f1.type = 3 := ⟨_, _, Tryd.underlying43, rfl, rfl, rfl, rfl⟩
theorem und44 : ∃ f0 f1 : Field, Tryd.prog.underlying 44 = some (.struct #[f0, f1]) ∧ f0.offset = 0 ∧ f1.offset = 1 ∧ f0.type = 3 ∧ f1.type = 3 := ⟨_, _, Tryd.underlying44, rfl, rfl, rfl, rfl⟩

section
variable {H : Type} {enc : TypeId × Value → H} {w : World} {spare : Nat → Bool} {held : Bool}

theorem some_at {α : Type} {ys : List α} {n i : Nat} (hl : ys.length = n) (hi : i < n) : ∃ y, ys[i]? = some y := ⟨_, List.getElem?_eq_getElem (by omega)⟩

/-- one number in a list of cells -/
theorem int_trod {n : Nat} {c : Value} {x : Option (DataW H × List MemPlace)} (hx : ∃ y, x = some y) (h : DataW.trod enc Tryd.prog w 0 spare held n 3 [c] = x) : ∃ z, c = .int .i64 z := by
  obtain ⟨y, rfl⟩ := hx
  obtain ⟨z, e, _, _⟩ := DataW.trod_int Tryd.underlying3 h
  exact ⟨z, by simpa using e⟩
theorem bool_trod {n : Nat} {c : Value} {x : Option (DataW H × List MemPlace)} (hx : ∃ y, x = some y) (h : DataW.trod enc Tryd.prog w 0 spare held n 4 [c] = x) : ∃ z, c = .bool z := by
  obtain ⟨y, rfl⟩ := hx
  obtain ⟨z, e, _⟩ := DataW.trod_bool Tryd.underlying4 h
  exact ⟨z, by simpa using e⟩

/-- a slice of numbers that came in -/
theorem rdI_trod {n : Nat} {v : Value} {x : DataW H × List MemPlace} (h : DataW.trod enc Tryd.prog w 0 spare held n 24 [v] = some x) : ∃ xs : List Int, RdI w v xs ∧ ∀ y ∈ xs, (Lit.int .i64 y).wf = true := by
  rcases open_ints Tryd.underlying24 Tryd.underlying3 cells3 h with ⟨hcs, _⟩ | ⟨a, len, cap, zs, hcs, _, hl, hm, hz, _, hcell, hwz⟩
  · injection hcs with e
    subst e
    exact ⟨[], RdI.nil w, fun _ h => by cases h⟩
  · injection hcs with e
    subst e
    have hlz : len ≤ zs.length := by rw [hz]; split <;> omega
    have hlen : (zs.take len).length = len := by simp; omega
    refine ⟨zs.take len, ⟨some a, cap, by rw [hlen], by omega, hm, fun j hj => ?_⟩, fun y hy => hwz y (List.mem_of_mem_take hy)⟩
    have hc := hcell j (by omega)
    obtain ⟨b, o, sp⟩ := a
    have hs : sp = none := by simpa [Addr.add] using World.cell?_spot (hcell 0 (by omega))
    subst hs
    rw [addr_add0] at hc
    refine ⟨b, o, rfl, hc.trans ?_⟩
    rw [List.getElem_take, List.getD_eq_getElem?_getD, List.getElem?_eq_getElem (by omega)]; rfl


theorem pair_trod {t t0 t1 : TypeId} {n : Nat} {c0 c1 : Value} {x : Option (DataW H × List MemPlace)} (hu : ∃ f0 f1 : Field, Tryd.prog.underlying t = some (.struct #[f0, f1]) ∧ f0.offset = 0 ∧ f1.offset = 1 ∧ f0.type = t0 ∧ f1.type = t1)
    (k0 : Tryd.prog.cellsOf t0 = 1) (k1 : Tryd.prog.cellsOf t1 = 1) (hx : ∃ y, x = some y) (h : DataW.trod enc Tryd.prog w 0 spare held n t [c0, c1] = x) :
    ∃ m x0 x1, (∃ y, x0 = some y) ∧ (∃ y, x1 = some y) ∧ DataW.trod enc Tryd.prog w 0 spare held m t0 [c0] = x0 ∧ DataW.trod enc Tryd.prog w 0 spare held m t1 [c1] = x1 := by
  obtain ⟨y, rfl⟩ := hx
  obtain ⟨f0, f1, hu, o0, o1, e0, e1⟩ := hu
  obtain ⟨ys, m, _, _, _, hl, hf⟩ := DataW.trod_struct hu h
  have h0 := hf 0 f0 rfl
  have h1 := hf 1 f1 rfl
  rw [o0, e0, k0] at h0
  rw [o1, e1, k1] at h1
  exact ⟨m, _, _, some_at hl (i := 0) (by simp), some_at hl (i := 1) (by simp), by simpa using h0, by simpa using h1⟩

/-- the cells of a place -/
theorem place_trod {n : Nat} {cs : List Value} {x : DataW H × List MemPlace} (hc : cs.length = 7) (h : DataW.trod enc Tryd.prog w 0 spare held n 46 cs = some x) : ∃ p : Pl, cs = plC p := by
  match cs, hc with
  | [c0, c1, c2, c3, c4, c5, c6], _ =>
    obtain ⟨f0, f1, f2, f3, f4, hu, ⟨o0, o1, o2, o3, o4⟩, e0, e1, e2, e3, e4⟩ := und46
    obtain ⟨ys, m, _, _, _, hl, hf⟩ := DataW.trod_struct hu h
    have h0 := hf 0 f0 rfl
    have h1 := hf 1 f1 rfl
    have h2 := hf 2 f2 rfl
    have h3 := hf 3 f3 rfl
    have h4 := hf 4 f4 rfl
    rw [o0, e0, cells3] at h0
    rw [o1, e1, cells3] at h1
    rw [o2, e2, cells3] at h2
    rw [o3, e3, cells43] at h3
    rw [o4, e4, cells44] at h4
    obtain ⟨g, rfl⟩ := int_trod (c := c0) (some_at hl (by simp)) h0
    obtain ⟨u, rfl⟩ := int_trod (c := c1) (some_at hl (by simp)) h1
    obtain ⟨c, rfl⟩ := int_trod (c := c2) (some_at hl (by simp)) h2
    obtain ⟨m3, x30, x31, hx30, hx31, k30, k31⟩ := pair_trod (c0 := c3) (c1 := c4) und43 cells4 cells3 (some_at hl (by simp)) h3
    obtain ⟨m4, x40, x41, hx40, hx41, k40, k41⟩ := pair_trod (c0 := c5) (c1 := c6) und44 cells3 cells3 (some_at hl (by simp)) h4
    obtain ⟨f, rfl⟩ := bool_trod hx30 k30
    obtain ⟨q, rfl⟩ := int_trod hx31 k31
    obtain ⟨x, rfl⟩ := int_trod hx40 k40
    obtain ⟨y, rfl⟩ := int_trod hx41 k41
    exact ⟨⟨g, u, c, f, q, x, y⟩, rfl⟩

set_option maxRecDepth 100000 in
/-- a slice of places that came in -/
theorem rdP_trod {n : Nat} {v : Value} {x : DataW H × List MemPlace} (h : DataW.trod enc Tryd.prog w 0 spare held n 25 [v] = some x) : ∃ ps : List Pl, RdP w v ps := by
  rcases open_slice Tryd.underlying25 h with ⟨hcs, _⟩ | ⟨a, len, cap, m, n', D, Pl', hcs, _, hl, hm, hmm, _, hi⟩
  · injection hcs with e
    subst e
    exact ⟨[], RdP.nil w⟩
  · injection hcs with e
    subst e
    have hlm : len ≤ m := by rw [hmm]; split <;> omega
    have each : ∀ i, i < len → ∃ (x : Pl), ∀ k (hk : k < 7), w.cell? (a.add (i * 7 + k)) = (plC x)[k]? := by
      intro i hil
      obtain ⟨cs', hc, ht⟩ := hi i (by omega)
      rw [cells46] at hc
      obtain ⟨_, hcl, hat⟩ := World.cells?_some hc
      obtain ⟨p, rfl⟩ := place_trod hcl ht
      refine ⟨p, fun k hk => ?_⟩
      have := hat k hk
      rw [Go.Deep.add_add] at this
      exact this
    have hall : ∃ f : Nat → Pl, ∀ i, i < len → ∀ k (hk : k < 7), w.cell? (a.add (i * 7 + k)) = (plC (f i))[k]? := by
      refine ⟨fun i => if h : i < len then (each i h).choose else ⟨0, 0, 0, false, 0, 0, 0⟩, fun i h => ?_⟩
      simp only [dif_pos h]
      exact (each i h).choose_spec
    obtain ⟨f, hf⟩ := hall
    refine ⟨(List.range len).map f, some a, cap, by simp, by simpa using hl, hm, fun j hj => ?_⟩
    have hj' : j < len := by simpa using hj
    have h7 := hf j hj'
    obtain ⟨b, o, sp⟩ := a
    have hs : sp = none := by
      have g1 := hf 0 (by omega) 0 (by omega)
      simpa [Addr.add] using World.cell?_spot g1
    subst hs
    have h8 : ∀ k (hk : k < 7), w.cell? ⟨b, o + j * 7 + k, none⟩ = (plC (f j))[k]? := fun k hk => by
      have := h7 k hk
      rw [addr_add0] at this
      rw [Nat.add_assoc]; exact this
    simp only [List.getElem_map, List.getElem_range]
    exact ⟨b, o, rfl, h8 0 (by omega), h8 1 (by omega), h8 2 (by omega), h8 3 (by omega), h8 4 (by omega), h8 5 (by omega), h8 6 (by omega)⟩

/-- a marker that came in -/
theorem rdM_trod {n : Nat} {cs : List Value} {x : DataW H × List MemPlace} (hc : cs.length = 6) (h : DataW.trod enc Tryd.prog w 0 spare held n 27 cs = some x) : ∃ m : Mk, RdM w (.agg cs.toArray) m := by
  match cs, hc with
  | [c0, c1, c2, c3, c4, c5], _ =>
    obtain ⟨f0, f1, f2, f3, f4, hu, ⟨o0, o1, o2, o3, o4⟩, e0, e1, e2, e3, e4⟩ := und27
    obtain ⟨ys, m, _, _, _, hl, hf⟩ := DataW.trod_struct hu h
    have h0 := hf 0 f0 rfl
    have h1 := hf 1 f1 rfl
    have h2 := hf 2 f2 rfl
    have h3 := hf 3 f3 rfl
    have h4 := hf 4 f4 rfl
    rw [o0, e0, cells3] at h0
    rw [o1, e1, cells3] at h1
    rw [o2, e2, cells23] at h2
    rw [o3, e3, cells24] at h3
    rw [o4, e4, cells25] at h4
    obtain ⟨len, rfl⟩ := int_trod (c := c0) (some_at hl (by simp)) h0
    obtain ⟨wid, rfl⟩ := int_trod (c := c1) (some_at hl (by simp)) h1
    obtain ⟨m3, x30, x31, hx30, hx31, k30, k31⟩ := pair_trod (c0 := c2) (c1 := c3) und23 cells3 cells3 (some_at hl (by simp)) h2
    obtain ⟨rx, rfl⟩ := int_trod hx30 k30
    obtain ⟨ry, rfl⟩ := int_trod hx31 k31
    obtain ⟨y3, hy3⟩ := some_at hl (i := 3) (by simp)
    obtain ⟨y4, hy4⟩ := some_at hl (i := 4) (by simp)
    rw [hy3] at h3
    rw [hy4] at h4
    obtain ⟨xs, hxs, _⟩ := rdI_trod (v := c4) h3
    obtain ⟨ps, hps⟩ := rdP_trod (v := c5) h4
    exact ⟨⟨len, wid, rx, ry, xs, ps⟩, _, _, rfl, hxs, hps⟩

theorem trodAll_carry {w' : World} (hb : Below w.heap.size w w') : ∀ {ts : List TypeId} {vs : List Value} {ds : List (DataW H)} {p : List MemPlace}, DataW.TrodAll enc Tryd.prog w 0 spare held ts vs ds p → DataW.TrodAll enc Tryd.prog w' 0 spare held ts vs ds p
  | [], _, _, _, h => by
    obtain ⟨rfl, rfl, rfl⟩ := trodAll_nil h
    exact rfl
  | _ :: _, _, _, _, h => by
    obtain ⟨v, vs1, d, ds1, a, b, rfl, rfl, rfl, ⟨n, hn⟩, h2⟩ := trodAll_cons h
    exact ⟨a, b, ⟨n, DataW.trod_carry n _ _ _ hn (fun p hp => hb.same (DataW.trod_lt n _ _ _ hn p hp))⟩, trodAll_carry hb h2, rfl⟩
end

section
variable {H : Type} {enc : TypeId × Value → H}
set_option maxRecDepth 100000 in
/-- A law that came back true and left alone what lay there has answered as its row says. -/
theorem post_true {f : Func} {s : ChangeSpec} {W W' : World} {args : Array Value} {ds : List (DataW H)} {p : List MemPlace} (hvs : s.vars = []) (hr : f.resultTypes = #[4])
    (hs : s.fn H (ds ++ []) = { results := [.lit (.bool true)], args := ds }) (hT : ∀ t ∈ f.params.toList, t < Tryd.prog.types.size)
    (hW : DataW.Whole enc Tryd.prog f.params.toList s.vars false W args.toList ds [] p)
    (hA : DataW.TrodAll enc Tryd.prog W 0 (fun _ => true) true f.params.toList args.toList ds p) (hb : Ext W W') :
    s.post enc Tryd.prog f false true false false W args (.bool true) W' := by
  have hb : Below W.heap.size W W' := hb
  have hold : ∀ q ∈ p, (fun b => decide (b < W.heap.size)) q.block = true := fun q hq => by simpa using hW.lt q hq
  have hres : ∀ (b : Nat) (sp : Nat → Bool) (hd : Bool), DataW.TrodAll enc Tryd.prog W' b sp hd f.resultTypes.toList ((Value.bool true).resultList f.resultTypes.size) (s.fn H (ds ++ [])).results [] := by
    intro b sp hd
    rw [hs, hr]
    exact trodAll_cons_mk (shut_bool Tryd.underlying4 _) trodAll_mk0
  have hargs : ∀ sp : Nat → Bool, (∀ q ∈ p, sp q.block = true) → DataW.TrodAll enc Tryd.prog W' 0 sp true f.params.toList args.toList (s.fn H (ds ++ [])).args p := by
    intro sp hsp
    rw [hs]
    exact DataW.TrodAll.respare kids full hT (trodAll_carry hb hA) hsp
  have hvars : ∀ sp : Nat → Bool, DataW.TrodVars enc Tryd.prog W' sp s.vars (s.fn H (ds ++ [])).vars [] := by
    intro sp
    rw [hs, hvs]
    rfl
  have hok : ∀ (j : Nat) (t : TypeId) (r : Value), f.resultTypes[j]? = some t → ((Value.bool true).resultList f.resultTypes.size)[j]? = some r → Value.okWide Tryd.prog W' .any 0 t r := by
    rw [hr]
    exact ok_one (f := { f with resultTypes := #[4] }) rfl rfl (okWide_bool_mk Tryd.underlying4 _)
  refine ⟨ds, [], p, [], p, [], hW, hres _ _ _, hargs _ hold, hvars _, World.keptBut_mono (fun q hq => ⟨hq, by simpa using hq⟩) (hb.frame (· ∈ p)), fun _ => ?_⟩
  obtain ⟨_, _, _, _, _, hz, hn⟩ := hW
  refine ⟨hok, _, _, ([] ++ p) ++ [], ⟨[] ++ p, [], trodAll_append (hargs _ (fun _ _ => rfl)) (hres _ _ _), hvars _, rfl, ?_, ?_⟩, ?_⟩
  · intro b off hp
    have hin : MemPlace.cell b off ∈ p := by simpa using hp
    have hlt : b < W.heap.size := of_decide_eq_true (hold _ hin)
    rw [hb.frozen hlt]
    exact hz b off hin
  · intro ha; cases ha
  · intro q hq _
    simpa using hq
end

section
variable {H : Type} {enc : TypeId × Value → H}
/-- the wrap for a row with listed variables, the world's shape kept -/
theorem returns_laid {a : Assume} {C : Checked} {os : Os} {f : FuncId} {fn : Func} {s : ChangeSpec} {conds : List PathCond} {apart fresh handsOn again : Bool} {X : World → Array Value → Prop}
    (hX : ∀ (w w' : World) (args : Array Value), w.heap = w'.heap → X w args → X w' args)
    (own : ownKnob C.prog.godebug = none) (started : os.Started) (noInit : C.prog.inits.idxOf? f = none) (hfn : C.prog.funcs[f]? = some fn)
    (witness : ∃ (w : World) (tape : Tape) (i : Input), w.os = os ∧ (w.forCall tape i).Shaped C.prog ∧ i.vars = [] ∧ Input.okWide C.prog (w.forCall tape i) .any w.heap.size f i ∧
      ((s.pre enc C.prog fn conds apart (w.forCall tape i).memory i.args ∧ X (w.forCall tape i).memory i.args) ∧ sizedMet enc C.prog fn (OpenSpec.ofChange s) apart (w.forCall tape i).memory i.args) ∧ a.holds C.prog (lone (Frame.enter C.prog f i.args .normal) [] (w.forCall tape i)))
    (contract : ∀ (W : World) (base : Nat) (args : Array Value) (ds gs : List (DataW H)) (before : List MemPlace),
      (∀ (j : Nat) t v, fn.params[j]? = some t → args[j]? = some v → Value.okWide C.prog W .any base t v) →
      DataW.Whole enc C.prog fn.params.toList s.vars apart W args.toList ds gs before →
      X W args → W.ShapedOpen C.prog →
      Calls C.prog f args W fun e W' => ∃ v, e = .returned v ∧ s.post enc C.prog fn apart fresh handsOn again W args v W') :
    ReturnsInHanded a C os f .any (fun w args => (s.pre enc C.prog fn conds apart w args ∧ X w args) ∧ sizedMet enc C.prog fn (OpenSpec.ofChange s) apart w args) (s.post enc C.prog fn apart fresh handsOn again) := by
  refine returnsInHanded_of_calls own started noInit witness ?_
  intro w tape i _ hsh _ hok hpre _
  obtain ⟨_, _, _, fn', hfn', _, _, _, _, hval⟩ := hok
  have e : fn' = fn := Option.some.inj (hfn'.symm.trans hfn)
  subst e
  obtain ⟨⟨⟨ds, gs, before, hw, _⟩, hx⟩, _⟩ := hpre
  have hw' := DataW.Whole.of_heap (w' := w.forCall tape i) (by rfl) hw
  refine (contract (w.forCall tape i) w.heap.size i.args ds gs before hval hw' (hX _ _ _ (by rfl) hx) hsh).mono fun e W' ⟨v, he, hp⟩ => ?_
  subst he
  exact ChangeSpec.post_blind hp
end

/-- the rows' list of variables -/
noncomputable abbrev laidL : List (String × DataW Unit) := Rows.interchangeAgainRow.laid

theorem pow_eq : (Rows.laid_internal_strconv_uint64pow10 : DataW Unit) = Lib.tabData .u64 Lib.pow10Tab := by kernel_rfl

/-- what the listed variables and the world's shape give the walks -/
theorem tab_of {W : World} (h : laidMetH Tryd.prog laidL W) (hs : W.ShapedOpen Tryd.prog) : Tab W := by
  rw [MakeChecks.laidMetH_plain _ _ _ (by kernel_rfl)] at h
  have h2 := laidMet.tail (laidMet.tail h)
  rw [pow_eq] at h2
  refine ⟨Lib.tabIs_of_head (g := 1) (t := 101) (e := 88) (n := 20) (by kernel_rfl) (by kernel_rfl) (by kernel_rfl) (by kernel_rfl) (by kernel_rfl) (by kernel_rfl) h2, ?_⟩
  exact cell_of_shapedOpen_int (t := 3) (zero := #[.int .i64 0]) hs (of_decide_eq_true (by kernel_rfl)) (by kernel_rfl) (by kernel_rfl) (by kernel_rfl) (by kernel_rfl) Tryd.underlying3

end Go.Proofs.YtmbjlbmfagfneaaDoor
