/- The library's variables (Tab) and the library's contracts in this seat's words; hasId. -/
import Derived.Test.YtphaigncbenmmaaGreatDoorShelf
import Derived.Test.YtphaigncbenmmaaGreatDoorBld
import Derived.Test.YtphaigncbenmmaaGreatDoorLeaf
import Derived.Lib.AppendIntMem
import Derived.Lib.AtoiErrMem
namespace Go.Proofs.YtphaigncbenmmaaGreatDoor
open Go Go.RowKit Go.Shelf

/-- the library's variables that are read: the table of powers of ten, and some number in MaxLen -/
def Tab (w : World) : Prop := Lib.TabIs Tryz.prog w "internal/strconv.uint64pow10" .u64 Lib.pow10Tab ∧ ∃ m, w.cell? ⟨0, 0, none⟩ = some (.int .i64 m)
theorem Tab.ext {w w' : World} (h : Tab w) (he : Ext w w') : Tab w' := by
  obtain ⟨h1, m, h2⟩ := h
  exact ⟨Lib.tabBelow_of_tabIs h1 w' he, m, he.cell h2⟩

theorem ext_grow (w : World) (k : Nat) (os : Array Obj) : Ext w (Sort.grow (w.drewN k) os) :=
  ⟨rfl, rfl, rfl, by simp [Sort.grow, World.drewN], fun k hk => by simp [Sort.grow, World.drewN, Array.getElem?_append, hk]⟩

theorem l_itoa (n : Int) (h0 : -9223372036854775808 ≤ n) (h1 : n ≤ 9223372036854775807) (w : World) (ht : Tab w) :
    Calls Tryz.prog 34 #[.int .i64 n] w fun e w' => e = .returned (.string (ofB (Lib.itoa n))) ∧ Ext w w' := by
  refine (Tryz.strconv_Itoa n h0 h1 w ht.1).mono ?_
  rintro e w' ⟨rfl, k, os, rfl⟩
  exact ⟨rfl, ext_grow _ _ _⟩

theorem l_atoi (s : ByteArray) (hs : s.size ≤ 19) (v : Int) (h : Lib.atoiAll (bs s) = .ok v) (w : World) :
    Calls Tryz.prog 62 #[.string s] w fun e w' => e = .returned (.tuple #[.int .i64 v, .nilIface]) ∧ Ext w w' := by
  refine (Tryz.strconv_Atoi_ok s (by omega) v h w).mono ?_
  rintro e w' ⟨rfl, rfl | ⟨t, rfl⟩⟩
  · exact ⟨rfl, Ext.refl _⟩
  · exact ⟨rfl, Lib.bytesWorld_below _ _ _⟩

theorem rd_split (d : UInt8) (s : ByteArray) (w : World) (t : TypeId) (hs : s.size < 4294967281) : ∃ ws : List ByteArray, ws.map bs = cuts d (bs s) ∧
    RdS (w.alloc (.cells ((Lib.splitB ⟨#[d]⟩ 0 (Lib.countB s ⟨#[d]⟩) s).map Value.string).toArray t)) (.slice (some ⟨w.heap.size, 0, none⟩) (Lib.countB s ⟨#[d]⟩ + 1) (Lib.countB s ⟨#[d]⟩ + 1)) ws := by
  have hl := Lib.splitB_all ⟨#[d]⟩ (by first | exact Nat.le_refl 1 | exact Nat.one_ne_zero | exact Nat.zero_lt_one) 0 _ s rfl
  have hc := Lib.countB_le ⟨#[d]⟩ (by first | exact Nat.le_refl 1 | exact Nat.one_ne_zero | exact Nat.zero_lt_one) _ s (Nat.le_refl _)
  refine ⟨Lib.splitB ⟨#[d]⟩ 0 (Lib.countB s ⟨#[d]⟩) s, ?_, some ⟨w.heap.size, 0, none⟩, Lib.countB s ⟨#[d]⟩ + 1, by rw [hl], by omega, by unfold maxLen; omega, fun j hj => ⟨w.heap.size, 0, rfl, ?_⟩⟩
  · have := Lib.splitB_data ⟨#[d]⟩ 0 (Lib.countB s ⟨#[d]⟩) s
    rw [← split_eq]
    exact this
  · rw [(Blk.new w t _).cell, Nat.zero_add]
    simp [hj]

theorem l_split (d : UInt8) (s : ByteArray) (w : World) (ht : Tab w) (hs : s.size < 4294967281) :
    Calls Tryz.prog 27 #[.string s, .string ⟨#[d]⟩] w fun e w' => ∃ v ws, e = .returned v ∧ RdS w' v ws ∧ ws.map bs = cuts d (bs s) ∧ Ext w w' := by
  obtain ⟨_, m, hm⟩ := ht
  refine (Tryz.strings_Split s ⟨#[d]⟩ m w hs hm (by first | exact Nat.le_refl 1 | exact Nat.one_ne_zero | exact Nat.zero_lt_one)).mono ?_
  rintro e w' ⟨rfl, rfl⟩
  obtain ⟨ws, h1, h2⟩ := rd_split d s w 9 hs
  exact ⟨_, ws, rfl, h2, h1, (Ext.refl w).alloc _⟩

theorem l_trim (s : ByteArray) (w : World) :
    Calls Tryz.prog 61 #[.string s, .string ⟨#[45]⟩] w fun e w' => e = .returned (.string (ofB (unsign (bs s)))) ∧ w' = w := by
  refine (Tryz.strings_TrimPrefix s ⟨#[45]⟩ w).mono ?_
  rintro e w' ⟨rfl, rfl⟩
  refine ⟨?_, rfl⟩
  have : Lib.trimPrefix s.data.toList (⟨#[45]⟩ : ByteArray).data.toList = unsign (bs s) := by
    show Lib.trimPrefix (bs s) [45] = _
    unfold unsign Lib.trimPrefix Lib.hasPrefix
    rcases bs s with _ | ⟨c, r⟩
    · rfl
    · by_cases h : c = 45
      · subst h; simp
      · simp [h]
        exact fun e => h e.symm
  rw [this]; rfl

theorem str_eq (a b : ByteArray) : (a.toList == b.toList) = decide (a = b) := by
  rw [ByteArray.toList_eq, ByteArray.toList_eq]
  by_cases h : a = b
  · subst h; simp
  · have : ¬ a.data.toList = b.data.toList := fun e => h (bs_inj e)
    simp [h]
    exact fun e => this (congrArg Array.toList e)
theorem containsS_eq (ws : List ByteArray) (x : ByteArray) : Lib.containsS ws x = ws.any fun y => decide (y = x) := by
  rw [Bool.eq_iff_iff, Lib.containsS_iff]
  simp
theorem l_contains (v : Value) (ws : List ByteArray) (x : ByteArray) (w : World) (h : RdS w v ws) (h0 : 0 < ws.length) :
    Calls Tryz.prog 46 #[v, .string x] w fun e w' => e = .returned (.bool (ws.any fun y => decide (y = x))) ∧ w' = w := by
  obtain ⟨A, c, rfl, hcap, hmax, hc⟩ := h
  unfold maxLen at hmax
  obtain ⟨b, o, rfl, _⟩ := hc 0 h0
  refine (Tryz.slices_Contains_string b o ws.length c ws x w (Nat.le_refl _) (by omega) (fun j hj => ?_)).mono ?_
  · obtain ⟨b', o', e, h⟩ := hc j hj
    injection e with e
    injection e with e1 e2 _
    subst e1 e2
    rw [h, List.getD_eq_getElem?_getD, List.getElem?_eq_getElem hj]; rfl
  · rintro e w' ⟨rfl, rfl⟩
    refine ⟨?_, rfl⟩
    rw [List.take_of_length_le (Nat.le_refl _)]
    have := containsS_eq ws x
    rw [this]

instance : Inhabited (Ro × Value) := ⟨(⟨[], 0, 0, 0, 0, 0, []⟩, .slice none 0 0)⟩

set_option maxHeartbeats 1000000 in
theorem l_hasIdX (i : ByteArray) (B : Nat) (w : World) (hB : B < w.heap.size) (hcell : w.cell? ⟨B, 0, none⟩ = some (.string i)) :
    PredBelow Tryz.prog 49 #[.pointer (some ⟨B, 0, none⟩)] (fun p => .agg (rpC p).toArray) (fun p => decide (ofB p.1.id = i)) w := fun W x hb => by
  have hc : W.cell? ⟨B, 0, none⟩ = some (.string i) := (hb.cell (p := ⟨B, 0, none⟩) hB).trans hcell
  have hBW : B < W.heap.size := Nat.lt_of_lt_of_le hB hb.size
  have hne : B ≠ W.heap.size := by omega
  show Calls Tryz.prog 49 #[.agg #[.string (ofB x.1.id), .int .i64 x.1.wid, .int .i64 x.1.len, .int .i64 x.1.tl, .int .i64 x.1.ta, .int .i64 x.1.tb, x.2], .pointer (some ⟨B, 0, none⟩)] W _
  go_enter Tryz.func49, Tryz.ntmps49
  go_wp2
  all_goals (go_ret; exact ⟨ret_bool (str_eq _ _), hb.alloc hb.size _⟩)

/-- the rolls of a slice, each next to the value of its flaws -/
theorem RdR.pairs {w : World} {A : Option Addr} {n cap : Nat} {rs : List Ro} (h : RdR w (.slice A n cap) rs) (h0 : 0 < rs.length) : ∃ (b o : Nat) (ps : List (Ro × Value)), A = some ⟨b, o, none⟩ ∧ ps.map (·.1) = rs ∧
    ∀ j, j < ps.length → ∀ i v, (rpC ps[j]!)[i]? = some v → w.cell? ⟨b, o + j * 7 + i, none⟩ = some v := by
  obtain ⟨A', cap', e, h1, h2, h3⟩ := h
  injection e with e1 e2 e3
  subst e1 e3
  obtain ⟨b, o, _, rfl, _⟩ := h3 0 h0
  have each : ∀ j (hj : j < rs.length), ∃ fv, ∀ i, i < 7 → w.cell? ⟨b, o + j * 7 + i, none⟩ = (roC rs[j] fv)[i]? := by
    intro j hj
    obtain ⟨b', o', fv, e, _, c0, c1, c2, c3, c4, c5, c6⟩ := h3 j hj
    injection e with e
    injection e with e1 e2 _
    subst e1 e2
    refine ⟨fv, fun i hi => ?_⟩
    match i, hi with
    | 0, _ => exact c0
    | 1, _ => exact c1
    | 2, _ => exact c2
    | 3, _ => exact c3
    | 4, _ => exact c4
    | 5, _ => exact c5
    | 6, _ => exact c6
  have hall : ∃ f : Nat → Value, ∀ j (hj : j < rs.length), ∀ i, i < 7 → w.cell? ⟨b, o + j * 7 + i, none⟩ = (roC rs[j] (f j))[i]? := by
    refine ⟨fun j => if h : j < rs.length then (each j h).choose else .nilIface, fun j h => ?_⟩
    simp only [dif_pos h]
    exact (each j h).choose_spec
  obtain ⟨f, hf⟩ := hall
  refine ⟨b, o, (List.range rs.length).pmap (fun j h => (rs[j]'h, f j)) (fun j hj => List.mem_range.1 hj), rfl, ?_, ?_⟩
  · apply List.ext_getElem
    · simp
    · intro j h1 h2
      simp
  · intro j hj i v hv
    have hj' : j < rs.length := by simpa using hj
    have hi : i < 7 := by
      have := (List.getElem?_eq_some_iff.1 hv).1
      exact this
    rw [getElem!_pos _ j hj] at hv
    simp only [List.getElem_pmap, List.getElem_range] at hv
    rw [hf j hj' i hi]
    exact hv

theorem has_pairs {ps : List (Ro × Value)} {rs : List Ro} (h : ps.map (·.1) = rs) (i : ByteArray) : ps.any (fun p => decide (ofB p.1.id = i)) = has rs (bs i) := by
  subst h
  unfold has
  rw [List.any_map]
  congr 1
  funext p
  have : (ofB p.1.id = i) ↔ (p.1.id = bs i) := ⟨fun h => by rw [← h, bs_ofB], fun h => by rw [h, ofB_bs]⟩
  simp [this]

set_option maxHeartbeats 1000000 in
theorem l_index0 (A : Option Addr) (c : Nat) (fv : Value) (w : World) : Calls Tryz.prog 63 #[.slice A 0 c, fv] w fun e w' => e = .returned (.int .i64 (-1)) ∧ w' = w := by
  go_enter Tryz.func63, Tryz.ntmps63
  go_wp2
  go_loop [8] (fun i => i = .int .i64 0) (fun _ => 0)
  case atStart => rfl
  case round =>
    subst hrel
    go_wp2
    go_ret
    exact ⟨rfl, rfl⟩
set_option maxHeartbeats 1000000 in
theorem l_contains0 (A : Option Addr) (c : Nat) (fv : Value) (w : World) : Calls Tryz.prog 48 #[.slice A 0 c, fv] w fun e w' => e = .returned (.bool false) ∧ w' = w := by
  go_enter Tryz.func48, Tryz.ntmps48
  go_wp2_with fail
  refine (l_index0 A c fv _).mono ?_
  rintro e w1 ⟨rfl, rfl⟩
  go_wp2
  go_ret
  exact ⟨rfl, rfl⟩

set_option maxHeartbeats 1000000 in
theorem c_hasId (v : Value) (rs : List Ro) (i : ByteArray) (w : World) (h : RdR w v rs) :
    Calls Tryz.prog 29 #[v, .string i] w fun e w' => e = .returned (.bool (has rs (bs i))) ∧ Ext w w' := by
  obtain ⟨A, c, rfl⟩ := h.slice
  have hmax : rs.length ≤ 9223372036854775807 := by
    obtain ⟨_, _, e, h1, h2, _⟩ := h
    unfold maxLen at h2; omega
  have eg : ∀ args w, (callFunc 49 args).run Tryz.prog w = .ok (.enter 49 args) w := enters_of Tryz.func49 (by kernel_rfl) rfl
  have hcon : Calls Tryz.prog 48 #[.slice A rs.length c, .func (.func 49) #[] #[.pointer (some ⟨w.heap.size, 0, none⟩)]] (w.alloc (.cells #[.string i] 9)) fun e w' => e = .returned (.bool (has rs (bs i))) ∧ Ext (w.alloc (.cells #[.string i] 9)) w' := by
    rcases Nat.eq_zero_or_pos rs.length with h0 | h0
    · have e0 : rs = [] := List.length_eq_zero_iff.1 h0
      subst e0
      refine (l_contains0 A c _ _).mono ?_
      rintro e w' ⟨rfl, rfl⟩
      exact ⟨rfl, Ext.refl _⟩
    · obtain ⟨b, o, ps, rfl, hps, hc⟩ := (h.ext ((Ext.refl w).alloc (.cells #[.string i] 9))).pairs h0
      have hlen : ps.length = rs.length := by rw [← hps]; simp
      have hb : b < (w.alloc (.cells #[.string i] 9)).heap.size := by
        have h1 := hc 0 (by omega) 0 _ (by simp [rpC, roC]; rfl)
        exact World.block_lt_of_cell? _ _ h1
      refine (AnyQ.slices_ContainsFunc Tryz.containsRolls 7 Tryz.isAgg26 Tryz.sizeOf26 rpC rpC_len (fun p => decide (ofB p.1.id = i)) 49 #[.pointer (some ⟨w.heap.size, 0, none⟩)] eg b o rs.length c ps _ (l_hasIdX i w.heap.size _ (by simp) (by simp)) (by omega) hmax hb hc).mono ?_
      rintro e w' ⟨rfl, hx⟩
      refine ⟨?_, hx⟩
      rw [List.take_of_length_le (by omega), has_pairs hps]
  generalize has rs (bs i) = r at hcon ⊢
  go_enter Tryz.func29, Tryz.ntmps29
  go_wp2_with (go_at_call 48; refine hcon.mono ?_; rintro e w' ⟨rfl, hb'⟩)
  go_ret
  exact ⟨rfl, ((Ext.refl w).alloc _).trans hb'⟩

end Go.Proofs.YtphaigncbenmmaaGreatDoor
