/- From a row's arguments and its listed variables to what the walks ask of them, and from a walk's end to the row's. -/
import Derived.Test.YtphaigncbenmmaaGreatDoorTie
import Derived.Test.YtphaigncbenmmaaGreatDoorHas
import Derived.ProofKit
import Derived.OpenShut
import Derived.Deep.Slices
import Derived.Deep.Fields
import Derived.LaidMore
import Derived.Lay
import Derived.SevenTiedAt
import Derived.Stop.Joined
import Derived.Stop.LaidErr
import Derived.Lib.LaidTab
import Derived.Shelf.Vars
namespace Go.Proofs.YtphaigncbenmmaaGreatDoor
open Go Go.ChangeShapes Go.WideShapes Go.ChangeAt Go.RowKit Go.Deep

theorem own : ownKnob Tryz.prog.godebug = none := by kernel_rfl
theorem kids : Kids Tryz.prog (· < Tryz.prog.types.size) := kids_rows (by kernel_rfl) (by kernel_rfl)
theorem full : ∀ t e, t < Tryz.prog.types.size → Tryz.prog.underlying t = some (.slice e) → 0 < Tryz.prog.cellsOf e := slices_full_of Tryz.prog (by kernel_rfl)
theorem cells3 : Tryz.prog.cellsOf 3 = 1 := by kernel_rfl
theorem cells9 : Tryz.prog.cellsOf 9 = 1 := by kernel_rfl
theorem cellsRect : Tryz.prog.cellsOf 47 = 4 := by kernel_rfl
theorem cellsTone : Tryz.prog.cellsOf 23 = 3 := by kernel_rfl
theorem cellsRoll : Tryz.prog.cellsOf 26 = 7 := by kernel_rfl
theorem cellsRects : Tryz.prog.cellsOf 24 = 1 := by kernel_rfl
theorem undRoll : ∃ f0 f1 f2 f3 f4 : Field, Tryz.prog.underlying 26 = some (.struct #[f0, f1, f2, f3, f4]) ∧ (f0.offset = 0 ∧ f1.offset = 1 ∧ f2.offset = 2 ∧ f3.offset = 3 ∧ f4.offset = 6) ∧ (f0.type = 9 ∧ f1.type = 3 ∧ f2.type = 3 ∧ f3.type = 23 ∧ f4.type = 24) := ⟨_, _, _, _, _, Tryz.underlying26, ⟨rfl, rfl, rfl, rfl, rfl⟩, rfl, rfl, rfl, rfl, rfl⟩
theorem undRect : ∃ f0 f1 f2 f3 : Field, Tryz.prog.underlying 47 = some (.struct #[f0, f1, f2, f3]) ∧ (f0.offset = 0 ∧ f1.offset = 1 ∧ f2.offset = 2 ∧ f3.offset = 3) ∧ (f0.type = 3 ∧ f1.type = 3 ∧ f2.type = 3 ∧ f3.type = 3) := ⟨_, _, _, _, Tryz.underlying47, ⟨rfl, rfl, rfl, rfl⟩, rfl, rfl, rfl, rfl⟩
theorem undTone : ∃ f0 f1 f2 : Field, Tryz.prog.underlying 23 = some (.struct #[f0, f1, f2]) ∧ (f0.offset = 0 ∧ f1.offset = 1 ∧ f2.offset = 2) ∧ (f0.type = 3 ∧ f1.type = 3 ∧ f2.type = 3) := ⟨_, _, _, Tryz.underlying23, ⟨rfl, rfl, rfl⟩, rfl, rfl, rfl⟩

section
variable {H : Type} {enc : TypeId × Value → H} {w : World} {spare : Nat → Bool} {held : Bool}

theorem some_at {α : Type} {ys : List α} {n i : Nat} (hl : ys.length = n) (hi : i < n) : ∃ y, ys[i]? = some y := ⟨_, List.getElem?_eq_getElem (by omega)⟩

/-- one number in a list of cells -/
theorem int_trod {n : Nat} {c : Value} {x : Option (DataW H × List MemPlace)} (hx : ∃ y, x = some y) (h : DataW.trod enc Tryz.prog w 0 spare held n 3 [c] = x) : ∃ z, c = .int .i64 z ∧ I64 z := by
  obtain ⟨y, rfl⟩ := hx
  obtain ⟨z, e, _, hw⟩ := DataW.trod_int Tryz.underlying3 h
  have hb := bounds_i64 hw
  exact ⟨z, by simpa using e, hb⟩
theorem str_trod {n : Nat} {c : Value} {x : Option (DataW H × List MemPlace)} (hx : ∃ y, x = some y) (h : DataW.trod enc Tryz.prog w 0 spare held n 9 [c] = x) : ∃ z : ByteArray, c = .string z := by
  obtain ⟨y, rfl⟩ := hx
  obtain ⟨z, e, _, _⟩ := DataW.trod_string Tryz.underlying9 h
  exact ⟨z, by simpa using e⟩

/-- the cells of a flaw -/
theorem flaw_trod {n : Nat} {cs : List Value} {x : DataW H × List MemPlace} (hc : cs.length = 4) (h : DataW.trod enc Tryz.prog w 0 spare held n 47 cs = some x) : ∃ f : Fl, cs = flC f ∧ FlI f := by
  match cs, hc with
  | [c0, c1, c2, c3], _ =>
    obtain ⟨f0, f1, f2, f3, hu, ⟨o0, o1, o2, o3⟩, e0, e1, e2, e3⟩ := undRect
    obtain ⟨ys, m, _, _, _, hl, hf⟩ := DataW.trod_struct hu h
    have h0 := hf 0 f0 rfl
    have h1 := hf 1 f1 rfl
    have h2 := hf 2 f2 rfl
    have h3 := hf 3 f3 rfl
    rw [o0, e0, cells3] at h0
    rw [o1, e1, cells3] at h1
    rw [o2, e2, cells3] at h2
    rw [o3, e3, cells3] at h3
    obtain ⟨a, rfl, ia⟩ := int_trod (c := c0) (some_at hl (by simp)) h0
    obtain ⟨b, rfl, ib⟩ := int_trod (c := c1) (some_at hl (by simp)) h1
    obtain ⟨c, rfl, ic⟩ := int_trod (c := c2) (some_at hl (by simp)) h2
    obtain ⟨d, rfl, id⟩ := int_trod (c := c3) (some_at hl (by simp)) h3
    exact ⟨⟨a, b, c, d⟩, rfl, ia, ib, ic, id⟩
theorem tone_trod {n : Nat} {c0 c1 c2 : Value} {x : Option (DataW H × List MemPlace)} (hx : ∃ y, x = some y) (h : DataW.trod enc Tryz.prog w 0 spare held n 23 [c0, c1, c2] = x) : ∃ a b c, c0 = .int .i64 a ∧ c1 = .int .i64 b ∧ c2 = .int .i64 c := by
  obtain ⟨y, rfl⟩ := hx
  obtain ⟨f0, f1, f2, hu, ⟨o0, o1, o2⟩, e0, e1, e2⟩ := undTone
  obtain ⟨ys, m, _, _, _, hl, hf⟩ := DataW.trod_struct hu h
  have h0 := hf 0 f0 rfl
  have h1 := hf 1 f1 rfl
  have h2 := hf 2 f2 rfl
  rw [o0, e0, cells3] at h0
  rw [o1, e1, cells3] at h1
  rw [o2, e2, cells3] at h2
  obtain ⟨a, rfl, _⟩ := int_trod (c := c0) (some_at hl (by simp)) h0
  obtain ⟨b, rfl, _⟩ := int_trod (c := c1) (some_at hl (by simp)) h1
  obtain ⟨c, rfl, _⟩ := int_trod (c := c2) (some_at hl (by simp)) h2
  exact ⟨a, b, c, rfl, rfl, rfl⟩

set_option maxRecDepth 100000 in
/-- a slice of flaws that came in -/
theorem rdF_trod {n : Nat} {v : Value} {x : Option (DataW H × List MemPlace)} (hx : ∃ y, x = some y) (h : DataW.trod enc Tryz.prog w 0 spare held n 24 [v] = x) : ∃ fs : List Fl, RdF w v fs := by
  obtain ⟨y, rfl⟩ := hx
  rcases open_slice Tryz.underlying24 h with ⟨hcs, _⟩ | ⟨a, len, cap, m, n', D, Pl', hcs, _, hl, hm, hmm, _, hi⟩
  · injection hcs with e
    subst e
    exact ⟨[], RdF.nil w⟩
  · injection hcs with e
    subst e
    have hlm : len ≤ m := by rw [hmm]; split <;> omega
    have each : ∀ i, i < len → ∃ (x : Fl), FlI x ∧ ∀ k (hk : k < 4), w.cell? (a.add (i * 4 + k)) = (flC x)[k]? := by
      intro i hil
      obtain ⟨cs', hc, ht⟩ := hi i (by omega)
      rw [cellsRect] at hc
      obtain ⟨_, hcl, hat⟩ := World.cells?_some hc
      obtain ⟨p, rfl, hp⟩ := flaw_trod hcl ht
      refine ⟨p, hp, fun k hk => ?_⟩
      have := hat k hk
      rw [Go.Deep.add_add] at this
      exact this
    have hall : ∃ f : Nat → Fl, ∀ i, i < len → FlI (f i) ∧ ∀ k (hk : k < 4), w.cell? (a.add (i * 4 + k)) = (flC (f i))[k]? := by
      refine ⟨fun i => if h : i < len then (each i h).choose else ⟨0, 0, 0, 0⟩, fun i h => ?_⟩
      simp only [dif_pos h]
      exact (each i h).choose_spec
    obtain ⟨f, hf⟩ := hall
    refine ⟨(List.range len).map f, some a, cap, by simp, by simpa using hl, hm, fun g hg => ?_, fun j hj => ?_⟩
    · obtain ⟨i, hi, rfl⟩ := List.mem_map.1 hg
      exact (hf i (List.mem_range.1 hi)).1
    have hj' : j < len := by simpa using hj
    have h7 := (hf j hj').2
    obtain ⟨b, o, sp⟩ := a
    have hs : sp = none := by
      have g1 := (hf 0 (by omega)).2 0 (by omega)
      simpa [Addr.add] using World.cell?_spot g1
    subst hs
    have h8 : ∀ k (hk : k < 4), w.cell? ⟨b, o + j * 4 + k, none⟩ = (flC (f j))[k]? := fun k hk => by
      have := h7 k hk
      rw [addr_add0] at this
      rw [Nat.add_assoc]; exact this
    simp only [List.getElem_map, List.getElem_range]
    exact ⟨b, o, rfl, h8 0 (by omega), h8 1 (by omega), h8 2 (by omega), h8 3 (by omega)⟩

/-- the cells of a roll -/
theorem roll_trod {n : Nat} {cs : List Value} {x : DataW H × List MemPlace} (hc : cs.length = 7) (h : DataW.trod enc Tryz.prog w 0 spare held n 26 cs = some x) : ∃ (r : Ro) (fv : Value), cs = roC r fv ∧ RdF w fv r.fl := by
  match cs, hc with
  | [c0, c1, c2, c3, c4, c5, c6], _ =>
    obtain ⟨f0, f1, f2, f3, f4, hu, ⟨o0, o1, o2, o3, o4⟩, e0, e1, e2, e3, e4⟩ := undRoll
    obtain ⟨ys, m, _, _, _, hl, hf⟩ := DataW.trod_struct hu h
    have h0 := hf 0 f0 rfl
    have h1 := hf 1 f1 rfl
    have h2 := hf 2 f2 rfl
    have h3 := hf 3 f3 rfl
    have h4 := hf 4 f4 rfl
    rw [o0, e0, cells9] at h0
    rw [o1, e1, cells3] at h1
    rw [o2, e2, cells3] at h2
    rw [o3, e3, cellsTone] at h3
    rw [o4, e4, cellsRects] at h4
    obtain ⟨s, rfl⟩ := str_trod (c := c0) (some_at hl (by simp)) h0
    obtain ⟨wd, rfl, _⟩ := int_trod (c := c1) (some_at hl (by simp)) h1
    obtain ⟨ln, rfl, _⟩ := int_trod (c := c2) (some_at hl (by simp)) h2
    obtain ⟨a, b, c, rfl, rfl, rfl⟩ := tone_trod (c0 := c3) (c1 := c4) (c2 := c5) (some_at hl (by simp)) h3
    obtain ⟨fs, hfs⟩ := rdF_trod (v := c6) (some_at hl (by simp)) h4
    exact ⟨⟨bs s, wd, ln, a, b, c, fs⟩, c6, by unfold roC; rw [ofB_bs], hfs⟩
theorem rdO_trod {n : Nat} {cs : List Value} {x : DataW H × List MemPlace} (hc : cs.length = 7) (h : DataW.trod enc Tryz.prog w 0 spare held n 26 cs = some x) : ∃ r : Ro, RdO w (.agg cs.toArray) r := by
  obtain ⟨r, fv, rfl, hf⟩ := roll_trod hc h
  exact ⟨r, fv, rfl, hf⟩

set_option maxRecDepth 100000 in
/-- a slice of rolls that came in -/
theorem rdR_trod {n : Nat} {v : Value} {x : DataW H × List MemPlace} (h : DataW.trod enc Tryz.prog w 0 spare held n 31 [v] = some x) : ∃ rs : List Ro, RdR w v rs := by
  rcases open_slice Tryz.underlying31 h with ⟨hcs, _⟩ | ⟨a, len, cap, m, n', D, Pl', hcs, _, hl, hm, hmm, _, hi⟩
  · injection hcs with e
    subst e
    exact ⟨[], RdR.nil w⟩
  · injection hcs with e
    subst e
    have hlm : len ≤ m := by rw [hmm]; split <;> omega
    have each : ∀ i, i < len → ∃ (x : Ro × Value), RdF w x.2 x.1.fl ∧ ∀ k (hk : k < 7), w.cell? (a.add (i * 7 + k)) = (rpC x)[k]? := by
      intro i hil
      obtain ⟨cs', hc, ht⟩ := hi i (by omega)
      rw [cellsRoll] at hc
      obtain ⟨_, hcl, hat⟩ := World.cells?_some hc
      obtain ⟨r, fv, rfl, hp⟩ := roll_trod hcl ht
      refine ⟨(r, fv), hp, fun k hk => ?_⟩
      have := hat k hk
      rw [Go.Deep.add_add] at this
      exact this
    have hall : ∃ f : Nat → Ro × Value, ∀ i, i < len → RdF w (f i).2 (f i).1.fl ∧ ∀ k (hk : k < 7), w.cell? (a.add (i * 7 + k)) = (rpC (f i))[k]? := by
      refine ⟨fun i => if h : i < len then (each i h).choose else default, fun i h => ?_⟩
      simp only [dif_pos h]
      exact (each i h).choose_spec
    obtain ⟨f, hf⟩ := hall
    refine ⟨(List.range len).map fun i => (f i).1, some a, cap, by simp, by simpa using hl, hm, fun j hj => ?_⟩
    have hj' : j < len := by simpa using hj
    obtain ⟨h6, h7⟩ := hf j hj'
    obtain ⟨b, o, sp⟩ := a
    have hs : sp = none := by
      have g1 := (hf 0 (by omega)).2 0 (by omega)
      simpa [Addr.add] using World.cell?_spot g1
    subst hs
    have h8 : ∀ k (hk : k < 7), w.cell? ⟨b, o + j * 7 + k, none⟩ = (rpC (f j))[k]? := fun k hk => by
      have := h7 k hk
      rw [addr_add0] at this
      rw [Nat.add_assoc]; exact this
    simp only [List.getElem_map, List.getElem_range]
    exact ⟨b, o, (f j).2, rfl, h6, h8 0 (by omega), h8 1 (by omega), h8 2 (by omega), h8 3 (by omega), h8 4 (by omega), h8 5 (by omega), h8 6 (by omega)⟩

theorem trodAll_carry {w' : World} (hb : Below w.heap.size w w') : ∀ {ts : List TypeId} {vs : List Value} {ds : List (DataW H)} {p : List MemPlace}, DataW.TrodAll enc Tryz.prog w 0 spare held ts vs ds p → DataW.TrodAll enc Tryz.prog w' 0 spare held ts vs ds p
  | [], _, _, _, h => by
    obtain ⟨rfl, rfl, rfl⟩ := trodAll_nil h
    exact rfl
  | _ :: _, _, _, _, h => by
    obtain ⟨v, vs1, d, ds1, a, b, rfl, rfl, rfl, ⟨n, hn⟩, h2⟩ := trodAll_cons h
    exact ⟨a, b, ⟨n, DataW.trod_carry n _ _ _ hn (fun p hp => hb.same (DataW.trod_lt n _ _ _ hn p hp))⟩, trodAll_carry hb h2, rfl⟩
end

section
variable {H : Type} {enc : TypeId × Value → H}
set_option maxRecDepth 100000 in
/-- A law that came back true and left alone what lay there has answered as its row says. -/
theorem post_true {f : Func} {s : ChangeSpec} {W W' : World} {args : Array Value} {ds : List (DataW H)} {p : List MemPlace} (hvs : s.vars = []) (hr : f.resultTypes = #[4])
    (hs : s.fn H (ds ++ []) = { results := [.lit (.bool true)], args := ds }) (hT : ∀ t ∈ f.params.toList, t < Tryz.prog.types.size)
    (hW : DataW.Whole enc Tryz.prog f.params.toList s.vars false W args.toList ds [] p)
    (hA : DataW.TrodAll enc Tryz.prog W 0 (fun _ => true) true f.params.toList args.toList ds p) (hb : Ext W W') :
    s.post enc Tryz.prog f false true false false W args (.bool true) W' := by
  have hb : Below W.heap.size W W' := hb
  have hold : ∀ q ∈ p, (fun b => decide (b < W.heap.size)) q.block = true := fun q hq => by simpa using hW.lt q hq
  have hres : ∀ (b : Nat) (sp : Nat → Bool) (hd : Bool), DataW.TrodAll enc Tryz.prog W' b sp hd f.resultTypes.toList ((Value.bool true).resultList f.resultTypes.size) (s.fn H (ds ++ [])).results [] := by
    intro b sp hd
    rw [hs, hr]
    exact trodAll_cons_mk (shut_bool Tryz.underlying4 _) trodAll_mk0
  have hargs : ∀ sp : Nat → Bool, (∀ q ∈ p, sp q.block = true) → DataW.TrodAll enc Tryz.prog W' 0 sp true f.params.toList args.toList (s.fn H (ds ++ [])).args p := by
    intro sp hsp
    rw [hs]
    exact DataW.TrodAll.respare kids full hT (trodAll_carry hb hA) hsp
  have hvars : ∀ sp : Nat → Bool, DataW.TrodVars enc Tryz.prog W' sp s.vars (s.fn H (ds ++ [])).vars [] := by
    intro sp
    rw [hs, hvs]
    rfl
  have hok : ∀ (j : Nat) (t : TypeId) (r : Value), f.resultTypes[j]? = some t → ((Value.bool true).resultList f.resultTypes.size)[j]? = some r → Value.okWide Tryz.prog W' .any 0 t r := by
    rw [hr]
    exact ok_one (f := { f with resultTypes := #[4] }) rfl rfl (okWide_bool_mk Tryz.underlying4 _)
  refine ⟨ds, [], p, [], p, [], hW, hres _ _ _, hargs _ hold, hvars _, World.keptBut_mono (fun q hq => ⟨hq, by simpa using hq⟩) (hb.frame (· ∈ p)), fun _ => ?_⟩
  obtain ⟨_, _, _, _, _, hz, hn⟩ := hW
  refine ⟨hok, _, _, ([] ++ p) ++ [], ⟨[] ++ p, [], trodAll_append (hargs _ (fun _ _ => rfl)) (hres _ _ _), hvars _, rfl, ?_, ?_⟩, ?_⟩
  · intro b off hp
    have hin : MemPlace.cell b off ∈ p := by simpa using hp
    have hlt : b < W.heap.size := of_decide_eq_true (hold _ hin)
    rw [hb.frozen hlt]
    exact hz b off hin
  · intro ha; cases ha
  · intro q hq _
    simpa using hq
end

section
variable {H : Type} {enc : TypeId × Value → H}
/-- the wrap for a row with listed variables, the world's shape kept -/
theorem returns_laid {a : Assume} {C : Checked} {os : Os} {f : FuncId} {fn : Func} {s : ChangeSpec} {conds : List PathCond} {apart fresh handsOn again : Bool} {X : World → Array Value → Prop}
    (hX : ∀ (w w' : World) (args : Array Value), w.heap = w'.heap → X w args → X w' args)
    (own : ownKnob C.prog.godebug = none) (started : os.Started) (noInit : C.prog.inits.idxOf? f = none) (hfn : C.prog.funcs[f]? = some fn)
    (witness : ∃ (w : World) (tape : Tape) (i : Input), w.os = os ∧ (w.forCall tape i).Shaped C.prog ∧ i.vars = [] ∧ Input.okWide C.prog (w.forCall tape i) .any w.heap.size f i ∧
      ((s.pre enc C.prog fn conds apart (w.forCall tape i).memory i.args ∧ X (w.forCall tape i).memory i.args) ∧ sizedMet enc C.prog fn (OpenSpec.ofChange s) apart (w.forCall tape i).memory i.args) ∧ a.holds C.prog (lone (Frame.enter C.prog f i.args .normal) [] (w.forCall tape i)))
    (contract : ∀ (W : World) (base : Nat) (args : Array Value) (ds gs : List (DataW H)) (before : List MemPlace),
      (∀ (j : Nat) t v, fn.params[j]? = some t → args[j]? = some v → Value.okWide C.prog W .any base t v) →
      DataW.Whole enc C.prog fn.params.toList s.vars apart W args.toList ds gs before →
      X W args → W.ShapedOpen C.prog →
      Calls C.prog f args W fun e W' => ∃ v, e = .returned v ∧ s.post enc C.prog fn apart fresh handsOn again W args v W') :
    ReturnsInHanded a C os f .any (fun w args => (s.pre enc C.prog fn conds apart w args ∧ X w args) ∧ sizedMet enc C.prog fn (OpenSpec.ofChange s) apart w args) (s.post enc C.prog fn apart fresh handsOn again) := by
  refine returnsInHanded_of_calls own started noInit witness ?_
  intro w tape i _ hsh _ hok hpre _
  obtain ⟨_, _, _, fn', hfn', _, _, _, _, hval⟩ := hok
  have e : fn' = fn := Option.some.inj (hfn'.symm.trans hfn)
  subst e
  obtain ⟨⟨⟨ds, gs, before, hw, _⟩, hx⟩, _⟩ := hpre
  have hw' := DataW.Whole.of_heap (w' := w.forCall tape i) (by rfl) hw
  refine (contract (w.forCall tape i) w.heap.size i.args ds gs before hval hw' (hX _ _ _ (by rfl) hx) hsh).mono fun e W' ⟨v, he, hp⟩ => ?_
  subst he
  exact ChangeSpec.post_blind hp
end

/-- the rows' list of variables -/
noncomputable abbrev laidL : List (String × DataW Unit) := Rows.rollChecksRow.laid

theorem pow_eq : (Rows.laid_internal_strconv_uint64pow10 : DataW Unit) = Lib.tabData .u64 Lib.pow10Tab := by kernel_rfl

/-- what the listed variables and the world's shape give the walks -/
theorem tab_of {W : World} (h : laidMetH Tryz.prog laidL W) (hs : W.ShapedOpen Tryz.prog) : Tab W := by
  rw [MakeChecks.laidMetH_plain _ _ _ (by kernel_rfl)] at h
  have h2 := laidMet.tail (laidMet.tail h)
  rw [pow_eq] at h2
  refine ⟨Lib.tabIs_of_head (g := 1) (t := 132) (e := 107) (n := 20) (by kernel_rfl) (by kernel_rfl) (by kernel_rfl) (by kernel_rfl) (by kernel_rfl) (by kernel_rfl) h2, ?_⟩
  exact cell_of_shapedOpen_int (t := 3) (zero := #[.int .i64 0]) hs (of_decide_eq_true (by kernel_rfl)) (by kernel_rfl) (by kernel_rfl) (by kernel_rfl) (by kernel_rfl) Tryz.underlying3

end Go.Proofs.YtphaigncbenmmaaGreatDoor
