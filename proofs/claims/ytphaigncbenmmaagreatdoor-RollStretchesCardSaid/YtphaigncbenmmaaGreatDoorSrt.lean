/- slices.Clone and slices.SortFunc at flaws. -/
import Derived.Test.YtphaigncbenmmaaGreatDoorHas
import Derived.Test.YtphaigncbenmmaaGreatDoorStp
import Derived.Sort.OwnSorted
namespace Go.Proofs.YtphaigncbenmmaaGreatDoor
open Go Go.RowKit Go.Shelf Go.Sort

instance : Inhabited Fl := ⟨⟨0, 0, 0, 0⟩⟩

/-- the comparison: cmp.Compare(a.X, b.X) -/
def cfX (a b : Fl) : Int := if a.x < b.x then -1 else if b.x < a.x then 1 else 0
theorem ltX (x y : Fl) : ltOf cfX x y = decide (x.x < y.x) := by
  unfold ltOf cfX
  by_cases h1 : x.x < y.x
  · simp [h1]
  · by_cases h2 : y.x < x.x <;> simp [h1, h2]
theorem swoX : SWO (ltOf cfX) where
  irrefl x := by rw [ltX]; simp
  trans x y z h1 h2 := by rw [ltX] at *; simp at *; omega
  ntrans x y z h1 h2 := by rw [ltX] at *; simp at *; omega

theorem flatK_list {α : Type} [Inhabited α] (enc : α → List Value) (k : Nat) (hk : ∀ x, (enc x).length = k) (h0 : 0 < k) (l : List α) : (flatK enc k l.toArray).toList = l.flatMap enc := by
  have hl : (l.flatMap enc).length = l.length * k := by
    induction l with
    | nil => simp
    | cons a l ih => rw [List.flatMap_cons, List.length_append, ih, hk, List.length_cons, Nat.succ_mul]; omega
  apply List.ext_getElem?
  intro t
  by_cases ht : t < l.length * k
  · have hd : t / k < l.length := Nat.div_lt_of_lt_mul (by rw [Nat.mul_comm]; exact ht)
    have hm : t % k < k := Nat.mod_lt _ h0
    have e1 := flat_get enc hk l (t / k) hd (t % k) hm
    rw [Nat.mul_comm, Nat.div_add_mod] at e1
    rw [e1]
    have h2 : t < (flatK enc k l.toArray).size := by rw [size_flatK]; simpa using ht
    have h3 := get_flatK enc k l.toArray t (by simpa using ht)
    rw [getElem!_pos _ t h2] at h3
    rw [Array.getElem?_toList, Array.getElem?_eq_getElem h2, h3]
    have h4 : (l.toArray)[t / k]! = l[t / k] := by simp [hd]
    rw [h4, getElem!_pos _ (t % k) (by rw [hk]; exact hm), List.getElem?_eq_getElem (by rw [hk]; exact hm)]
  · rw [List.getElem?_eq_none (by simp; omega), List.getElem?_eq_none (by omega)]

theorem holdsK_own {w : World} {g : Nat} {E : TypeId} {cur : Array Value} {l : List Fl} (hb : w.heap[g]? = some (.cells cur E (0, 0))) (ht : cur.toList.take (l.length * 4) = l.flatMap flC) : HoldsK flC 4 w g 0 l.toArray := by
  intro j hj
  rw [size_flatK] at hj
  have hj' : j < l.length * 4 := by simpa using hj
  refine ⟨?_, by simp [World.frozen?, hb]⟩
  have h2 : j < (flatK flC 4 l.toArray).size := by rw [size_flatK]; exact hj
  have h1 : (cur.toList.take (l.length * 4))[j]? = (flatK flC 4 l.toArray).toList[j]? := by rw [ht, flatK_list flC 4 flC_len (by omega)]
  rw [List.getElem?_take_of_lt hj'] at h1
  simp only [World.cell?, hb, Nat.zero_add]
  simp only [Option.isSome_none, Bool.false_eq_true, if_false]
  rw [← Array.getElem?_toList, h1, Array.getElem?_toList, Array.getElem?_eq_getElem h2, getElem!_pos _ j h2]; rfl

theorem heap_sortedK {w : World} {g n : Nat} {os : Array Obj} {cur : Array Value} {e : TypeId} {fr : Nat × Nat} (d : Array Value) (hb : w.heap[g]? = some (.cells cur e fr)) :
    (grow (putRow id (Sort.ahead w n) g 0 d) os).heap[g]? = some (.cells (putCells id 0 d cur) e fr) := by
  have hg : g < w.heap.size := (Array.getElem?_eq_some_iff.1 hb).1
  rw [heap_grow_old _ _ (by simpa using hg)]
  simp [putRow, mapBlock, Sort.ahead, Array.getElem?_modify, hb, onCells]
theorem grownBy_sortedK {w : World} {g n : Nat} {os : Array Obj} (d : Array Value) : w.grownBy (grow (putRow id (Sort.ahead w n) g 0 d) os) (some g) := by
  refine ⟨rfl, rfl, rfl, by simp, fun k hk hne => ?_⟩
  rw [heap_grow_old _ _ (by simpa using hk)]
  have : g ≠ k := fun e => hne (by rw [e])
  simp [putRow, mapBlock, Sort.ahead, Array.getElem?_modify, this]
theorem take_putCellsK (cur d : Array Value) (h : d.size ≤ cur.size) : (putCells id 0 d cur).toList.take d.size = d.toList := by
  apply List.ext_getElem?
  intro j
  by_cases hj : j < d.size
  · rw [List.getElem?_take_of_lt hj, Array.getElem?_toList]
    simp [putCells, hj, show j < cur.size by omega]
  · rw [List.getElem?_take_eq_none (by omega), List.getElem?_eq_none (by simp; omega)]

theorem own_sorted {w : World} {B g cap n : Nat} {os : Array Obj} {cur : Array Value} {E : TypeId} {l r : List Fl} (hl : r.length = l.length) (hB : B ≤ g) (hb : w.heap[g]? = some (.cells cur E (0, 0))) (h1 : l.length ≤ cap) (h2 : cap ≤ maxLen) (h3 : cur.size = cap * 4) :
    OwnE E 4 flC B (sortWorldK flC 4 w g 0 n r.toArray os) (.slice (some ⟨g, 0, none⟩) l.length cap) r := by
  have hsz : (flatK flC 4 r.toArray).size = r.length * 4 := by rw [size_flatK]; simp
  have hm : r.length * 4 ≤ cap * 4 := Nat.mul_le_mul_right 4 (by omega)
  have hfl := flatK_list flC 4 flC_len (by omega) r
  refine ⟨?_, .inr ⟨g, cap, _, by rw [hl], hB, heap_sortedK _ hb, by omega, h2, by simp [putCells, h3], ?_⟩⟩
  · rw [← hfl]; simp
  · have := take_putCellsK cur (flatK flC 4 r.toArray) (by omega)
    rw [hsz, hfl] at this
    exact this

set_option maxHeartbeats 1000000 in
theorem l_isNaN (x : Int) (w : World) : Calls Tryz.prog 56 #[.int .i64 x] w fun e w' => e = .returned (.bool false) ∧ w' = w := by
  go_enter Tryz.func56, Tryz.ntmps56
  go_wp2
  go_ret
  exact ⟨rfl, rfl⟩
set_option maxHeartbeats 1000000 in
theorem l_compare (x y : Int) (w : World) : Calls Tryz.prog 40 #[.int .i64 x, .int .i64 y] w fun e w' => e = .returned (.int .i64 (if x < y then -1 else if y < x then 1 else 0)) ∧ w' = w := by
  by_cases h1 : x < y
  · simp only [if_pos h1]
    go_enter Tryz.func40, Tryz.ntmps40
    go_wp2_with fail
    refine (l_isNaN x _).mono ?_
    rintro e w1 ⟨rfl, rfl⟩
    go_wp2_with fail
    refine (l_isNaN y _).mono ?_
    rintro e w1 ⟨rfl, rfl⟩
    go_wp2
    go_ret
    exact ⟨rfl, rfl⟩
  · by_cases h2 : y < x
    all_goals
      simp only [if_neg h1, h2, if_true, if_false]
      go_enter Tryz.func40, Tryz.ntmps40
      go_wp2_with fail
      refine (l_isNaN x _).mono ?_
      rintro e w1 ⟨rfl, rfl⟩
      go_wp2_with fail
      refine (l_isNaN y _).mono ?_
      rintro e w1 ⟨rfl, rfl⟩
      go_wp2
      go_ret
      exact ⟨rfl, rfl⟩

set_option maxHeartbeats 1000000 in
theorem l_cmpX (x y : Fl) (W : World) : Calls Tryz.prog 39 #[.agg (flC x).toArray, .agg (flC y).toArray] W fun e w' => e = .returned (.int .i64 (cfX x y)) ∧ ∃ q os, w' = grow (W.drewN q) os := by
  show Calls Tryz.prog 39 #[.agg #[.int .i64 x.x, .int .i64 x.y, .int .i64 x.w, .int .i64 x.h], .agg #[.int .i64 y.x, .int .i64 y.y, .int .i64 y.w, .int .i64 y.h]] W _
  have hcon := fun w => l_compare x.x y.x w
  unfold cfX
  generalize (if x.x < y.x then (-1 : Int) else if y.x < x.x then 1 else 0) = r at hcon ⊢
  go_enter Tryz.func39, Tryz.ntmps39
  go_wp2_with fail
  refine (hcon _).mono ?_
  rintro e w1 ⟨rfl, rfl⟩
  go_wp2
  go_ret
  refine ⟨rfl, 0, #[.cells #[.int .i64 x.x, .int .i64 x.y, .int .i64 x.w, .int .i64 x.h] 47, .cells #[.int .i64 y.x, .int .i64 y.y, .int .i64 y.w, .int .i64 y.h] 47], ?_⟩
  rw [alloc_eq_grow, alloc_eq_grow, grow_grow]; rfl

set_option maxHeartbeats 1000000 in
theorem l_clone0 (ad : Addr) (c : Nat) (w : World) : Calls Tryz.prog 37 #[.slice (some ad) 0 c] w fun e w' => ∃ v', e = .returned v' ∧ OwnE 47 4 flC w.heap.size w' v' [] ∧ Ext w w' := by
  obtain ⟨i, hi, hz0, hz1, hz2⟩ := info_parts info_rect
  have q22 : ∀ (w : World) (a : Option Addr) (n c n' c' : Nat), (binOp .eql 24 (.slice a n c) (.slice none n' c')).run Tryz.prog w = .ok (.bool a.isNone) w := fun w a n c n' c' => Lib.run_eql_slice_nil w _ _ a n c n' c' Tryz.underlying24
  go_enter Tryz.func37, Tryz.ntmps37
  go_wp2_with (at_builtin; refine wpList_append_own _ rfl _ _ 24 rfl w.heap.size 47 i _ 4 32 Tryz.underlying24 hi hz0 hz1 hz2 rfl (by decide) _ _ _ rfl (World.ownsRow_made w #[] 0 (Nat.le_refl _) (Nat.zero_le _) (by simp)) ad 0 c [] rfl ?qc1 ?qc2 ?qc3 ?qc4 ?qc5 ?qc6 ?_)
  case qc1 => rfl
  case qc2 => intro j u hj; simp at hj
  case qc3 => intro u hu; cases hu
  case qc4 => simp [maxLen]
  case qc5 => simp
  case qc6 => simp
  intro v' w1 hown hgrow hnil
  go_wp2
  go_ret
  refine ⟨v', rfl, by unfold OwnE; simpa using hown, ?_⟩
  exact ((Below.refl _ w).alloc (Nat.le_refl _) _).grown hgrow (by simp) (by intro k hk; simp [Value.ownBlock] at hk; omega)

theorem flatC_len (l : List Fl) : (l.flatMap flC).length = l.length * 4 := by
  induction l with
  | nil => rfl
  | cons a l ih => rw [List.flatMap_cons, List.length_append, ih, flC_len, List.length_cons]; omega

theorem l_clone (v : Value) (l : List Fl) (w : World) (h : RdF w v l) (hl : l.length ≤ 1000) : Calls Tryz.prog 37 #[v] w fun e w' => ∃ v', e = .returned v' ∧ OwnE 47 4 flC w.heap.size w' v' l ∧ Ext w w' := by
  obtain ⟨A, cap, rfl, h1, h2, h4, h3⟩ := h
  rcases A with _ | ad
  · have e0 : l = [] := by
      rcases l with _ | ⟨f, l⟩
      · rfl
      · obtain ⟨b, o, e, _⟩ := h3 0 (by simp)
        cases e
    subst e0
    refine (AnyE.slices_Clone_nil Tryz.cloneRects _ _ w).mono ?_
    rintro e w' ⟨rfl, rfl⟩
    exact ⟨_, rfl, OwnE.nil _ _ _ _ _, Ext.refl _⟩
  · rcases Nat.eq_zero_or_pos l.length with h0 | h0
    · have e0 : l = [] := List.length_eq_zero_iff.1 h0
      subst e0
      exact l_clone0 ad cap w
    · obtain ⟨b, o, e, _⟩ := h3 0 h0
      injection e with e
      subst e
      obtain ⟨i, hi, hz0, hz1, hz2⟩ := info_parts info_rect
      have hlen := flatC_len l
      refine (AnyE.slices_Clone Tryz.cloneRects i _ 4 32 hi hz0 hz1 hz2 rfl (by decide) Tryz.sizeOf47 b o l.length cap (l.flatMap flC) w hlen (by unfold maxLen; omega) (by omega) ?_ ?_).mono ?_
      · intro j u hu
        have hj : j < l.length * 4 := by rw [← hlen]; exact (List.getElem?_eq_some_iff.1 hu).1
        obtain ⟨p, m, hpm, hm⟩ : ∃ p m, j = p * 4 + m ∧ m < 4 := ⟨j / 4, j % 4, by omega, by omega⟩
        subst hpm
        have hd : p < l.length := by omega
        have hg := flat_get flC flC_len l p hd m hm
        rw [hu] at hg
        obtain ⟨b', o', e, c0, c1, c2, c3⟩ := h3 p hd
        cases e
        rw [← Nat.add_assoc]
        refine Eq.trans ?_ hg.symm
        clear hu hg hj
        match m, hm with
        | 0, _ => exact c0
        | 1, _ => exact c1
        | 2, _ => exact c2
        | 3, _ => exact c3
      · intro u hu
        obtain ⟨f, _, hf⟩ := List.mem_flatMap.1 hu
        exact flC_one f u hf
      · rintro e w' ⟨v', rfl, hown, _, hb⟩
        exact ⟨v', rfl, hown, hb⟩

theorem sorted_list {d d' : Array Fl} (hp : PermIn 0 d.size d d') (hs : SortedIn (ltOf cfX) 0 d.size d') : d'.toList.Perm d.toList ∧ d'.toList.Pairwise fun a b => a.x ≤ b.x := by
  obtain ⟨h1, _, h2⟩ := hp
  refine ⟨?_, ?_⟩
  · have e1 : d'.extract 0 d.size = d' := by rw [← h1]; simp
    have e2 : d.extract 0 d.size = d := by simp
    rw [e1, e2] at h2; exact h2
  · rw [List.pairwise_iff_getElem]
    intro i j hi hj hij
    have hi' : i < d'.size := by simpa using hi
    have hj' : j < d'.size := by simpa using hj
    have := hs i j (Nat.zero_le _) hij (by omega)
    rw [ltX, getElem!_pos _ i hi', getElem!_pos _ j hj'] at this
    simp only [Array.getElem_toList]
    simp at this; omega

theorem grown_of_ext {w w' : World} (he : Ext w w') (row : Option Nat) : w.grownBy w' row := ⟨he.below.os, he.below.tape, he.below.output, he.size, fun i hi _ => he.below.block i hi⟩

set_option maxHeartbeats 1000000 in
theorem l_sort (v : Value) (l : List Fl) (B : Nat) (w : World) (hown : OwnE 47 4 flC B w v l) (hl : l.length ≤ 1000) :
    Calls Tryz.prog 38 #[v, .func (.func 39) #[] #[]] w fun e w' => e = .returned (.tuple #[]) ∧ ∃ r : List Fl, r.Perm l ∧ (r.Pairwise fun a b => a.x ≤ b.x) ∧ OwnE 47 4 flC B w' v r ∧ w.grownBy w' v.ownBlock := by
  have eg : ∀ args w, (callFunc 39 args).run Tryz.prog w = .ok (.enter 39 args) w := enters_of Tryz.func39 (by kernel_rfl) rfl
  rcases Nat.eq_zero_or_pos l.length with h0 | h0
  · have e0 : l = [] := List.length_eq_zero_iff.1 h0
    subst e0
    obtain ⟨A, cap, rfl⟩ := hown.slice
    refine (AnyF.slices_SortFunc_none Tryz.sortRects A cap _ w).mono ?_
    rintro e w' ⟨rfl, rfl⟩
    exact ⟨rfl, [], List.Perm.refl _, List.Pairwise.nil, hown, grown_of_ext (Ext.refl _) _⟩
  · rcases hown.2 with ⟨_, h⟩ | ⟨g, cap, cur, rfl, hB, hh, hn, hm, hs, ht⟩
    · omega
    · refine (AnyQ.slices_SortFunc Tryz.sortRects 4 Tryz.isAgg47 Tryz.sizeOf47 flC flC_len flC_one cfX swoX 39 #[] g 0 cap l.toArray w eg (fun m os dk _ x y => l_cmpX x y _) (holdsK_own hh ht) (Array.getElem?_eq_some_iff.1 hh).1 (by simp; omega)).mono ?_
      rintro e w' ⟨rfl, d', n, os, hp, hsr, rfl⟩
      obtain ⟨p1, p2⟩ := sorted_list hp hsr
      have hlen : d'.toList.length = l.length := p1.length_eq
      refine ⟨rfl, d'.toList, p1, p2, ?_, grownBy_sortedK _⟩
      have := own_sorted (n := n) (os := os) (E := 47) hlen hB hh hn hm hs
      simpa using this

end Go.Proofs.YtphaigncbenmmaaGreatDoor
