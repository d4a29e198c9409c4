/- RollOrder says yes of every roll: the walk. -/
import Derived.Test.YtphaigncbenmmaaGreatDoorAwk
import Derived.Test.YtphaigncbenmmaaGreatDoorRck
import Derived.BigRegion
import Derived.Deep.RegionHeld3
import Derived.Deep.DrawnRows
namespace Go.Proofs.YtphaigncbenmmaaGreatDoor
open Go Go.RowKit
attribute [local go_sem ↓] Go.wp_at_zero Go.wp_at_succ

/-! ### In plain words -/
theorem rev_step {fs gs : List Fl} (h : gs = fs.reverse.take gs.length) {m : Nat} (hm : m + gs.length + 1 = fs.length) (hk : m < fs.length) : gs ++ [fs[m]] = fs.reverse.take (gs ++ [fs[m]]).length := by
  rw [List.length_append, List.length_singleton, take_snoc _ _ (by simp; omega), ← h, List.getElem_reverse]
  congr 2
  have : fs.length - 1 - gs.length = m := by omega
  simp only [this]
/-- a flaw within a flaw: as the law cuts it out -/
def inner (f : Fl) (a b : Int) : Fl := ⟨f.x + a, f.y, 1 + b, f.h⟩
/-- the flaws that the law hands over the second time -/
def turned (fs : List Fl) (a b : Int) : List Fl := match fs with
  | [] => []
  | f :: r => (f :: r).reverse ++ [inner f a b]
theorem inner_valid {r : Ro} (hv : Valid r) {f : Fl} (hf : f ∈ r.fl) {a b : Int} (ha : 0 ≤ a ∧ a < f.w) (hb : 0 ≤ b ∧ b < f.w - a) : fitOk r (inner f a b) = true := by
  have := hv.flaw f hf
  unfold fitOk inner
  simp only [decide_eq_true_eq]
  omega
theorem turned_valid {r : Ro} (hv : Valid r) (hl : r.fl.length < 20) {gs : List Fl} (hg : ∀ g ∈ gs, g ∈ r.fl ∨ fitOk r g = true) (hn : gs.length ≤ r.fl.length + 1) : check { r with fl := gs } = 0 :=
  Valid.check ⟨hv.id, hv.meas, by show gs.length ≤ 20; omega, fun g hgm => (hg g hgm).elim (fun h => hv.fit g h) id⟩
theorem order_zones {r : Ro} (hv : Valid r) {f : Fl} (hf : f ∈ r.fl) {a b : Int} (ha : 0 ≤ a ∧ a < f.w) (hb : 0 ≤ b ∧ b < f.w - a) : zones r.len (r.fl.reverse ++ [inner f a b]) = zones r.len r.fl := by
  have hl := hv.len
  have hff := hv.flaw f hf
  refine zones_same (by omega) (fun g hg => ?_) hv.fits (fun x => cov_more hf (by unfold inner; simp; omega) (by unfold inner; simp; omega) x)
  rcases List.mem_append.1 hg with hg | hg
  · exact hv.fits g (List.mem_reverse.1 hg)
  · rw [List.mem_singleton] at hg
    subst hg
    unfold inner
    simp
    omega

theorem RdF.at {w : World} {A : Option Addr} {n c : Nat} {fs : List Fl} (h : RdF w (.slice A n c) fs) (j : Nat) (hj : j < fs.length) : ∃ b o, A = some ⟨b, o, none⟩ ∧ w.cell? ⟨b, o + j * 4, none⟩ = some (.int .i64 fs[j].x) ∧ w.cell? ⟨b, o + j * 4 + 1, none⟩ = some (.int .i64 fs[j].y) ∧ w.cell? ⟨b, o + j * 4 + 2, none⟩ = some (.int .i64 fs[j].w) ∧ w.cell? ⟨b, o + j * 4 + 3, none⟩ = some (.int .i64 fs[j].h) := by
  obtain ⟨A', c', e, _, _, _, h3⟩ := h
  injection e with e1 _ _
  obtain ⟨b, o, e2, hc⟩ := h3 j hj
  exact ⟨b, o, e1.trans e2, hc⟩

/-- what the loop of RollOrder keeps -/
structure RvAt (r : Ro) (W wr : World) (gs : List Fl) (A : Option Addr) (c : Nat) : Prop where
  le : gs.length ≤ r.fl.length
  pre : gs = r.fl.reverse.take gs.length
  blk : Blk wr W.heap.size 26 (roC r (.slice A gs.length c)).toArray
  own : OwnE 47 4 flC (W.heap.size + 1) wr (.slice A gs.length c) gs
  ext : Ext W wr

set_option maxRecDepth 20000 in
set_option maxHeartbeats 1000000 in
theorem c_order (r : Ro) (v : Value) (fr sz : Int) (w : World) (ht : Tab w) (h : RdO w v r) (hfr : 0 ≤ fr ∧ fr ≤ 255) (hsz : 0 ≤ sz ∧ sz ≤ 255) : Calls Tryz.prog 8 #[v, .int .u8 fr, .int .u8 sz] w fun e w' => e = .returned (.bool true) ∧ Ext w w' := by
  obtain ⟨fv, rfl, h⟩ := h
  obtain ⟨Af, cf, rfl⟩ := h.slice
  replace h := Lib.hid h
  replace ht := Lib.hid ht
  have hcf := fun w h => c_few r (.slice Af r.fl.length cf) w h
  have hcs := fun n w h1 h2 => c_stretches r (.slice Af r.fl.length cf) n w h1 h2
  have hcr := fun w h1 h2 => c_rcheck r (.slice Af r.fl.length cf) w h1 h2
  unfold roV at hcf hcs hcr ⊢
  replace hcf := Lib.hid hcf
  replace hcs := Lib.hid hcs
  replace hcr := Lib.hid hcr
  go_enter Tryz.func8, Tryz.ntmps8
  go_wp2_with fail
  refine (hcf.out _ (h.out.ext ((Ext.refl w).alloc _))).mono ?_
  rintro e w1 ⟨rfl, hx⟩
  have hb1 := (Blk.new w 26 (roC r (.slice Af r.fl.length cf)).toArray).ext hx
  have hE1 := Lib.hid (((Ext.refl w).alloc (.cells (roC r (.slice Af r.fl.length cf)).toArray 26)).trans hx)
  clear hx
  obtain ⟨q0, q1, q2, q3, q4, q5, q6⟩ := hb1.parts7
  have hlt1 := hb1.lt
  replace hb1 := Lib.hid hb1
  rcases hf : few1 r with _ | _
  · go_wp2_with fail
    refine (c_example _ (ht.out.ext hE1.out)).mono ?_
    rintro e w2 ⟨rfl, hx⟩
    replace hx := Lib.hid hx
    go_wp2
    go_ret
    exact ⟨rfl, hE1.out.trans hx.out⟩
  have hid : r.id.length ≤ 30000 := by
    have := of_decide_eq_true (show decide (r.fl.length ≤ 30 ∧ r.id.length ≤ 100) = true from hf)
    omega
  replace hf := Lib.hid hf
  by_cases h20 : 20 ≤ r.fl.length
  · go_wp2_with fail
    refine (c_example _ (ht.out.ext hE1.out)).mono ?_
    rintro e w2 ⟨rfl, hx⟩
    replace hx := Lib.hid hx
    go_wp2
    go_ret
    exact ⟨rfl, hE1.out.trans hx.out⟩
  go_wp2_with fail
  refine (hcr.out _ (h.out.ext hE1.out) hid).mono ?_
  rintro e w2 ⟨rfl, hx⟩
  have hE2 := Lib.hid (hE1.out.trans hx)
  have hb2 := hb1.out.ext hx
  clear hx q0 q1 q2 q3 q4 q5 q6 hlt1
  obtain ⟨q0, q1, q2, q3, q4, q5, q6⟩ := hb2.parts7
  have hlt2 := hb2.lt
  replace hb2 := Lib.hid hb2
  by_cases hck : check r = 0
  rotate_left
  · have hn0 : (check r == 0) = false := by simp; exact hck
    have hn1 : (check r != 0) = true := bne_iff_ne.2 hck
    replace hck := Lib.hid hck
    go_wp2_with fail
    refine (c_example _ (ht.out.ext hE2.out)).mono ?_
    rintro e w3 ⟨rfl, hx⟩
    replace hx := Lib.hid hx
    go_wp2
    go_ret
    exact ⟨rfl, hE2.out.trans hx.out⟩
  rw [hck]
  have hv := Lib.hid (check_ok hck)
  have hle := hv.out.len
  have hst := Lib.hid (strP_one hck)
  have hgd := Lib.hid (zones_good (by omega : (0 : Int) ≤ r.len) hv.out.fits)
  replace hck := Lib.hid hck
  go_wp2_with fail
  refine (hcs.out 1 _ (h.out.ext hE2.out) hid).mono ?_
  intro e w3 he
  obtain ⟨Az, cz, rfl, hz3, hx⟩ := he.open_ hst.out
  clear he q0 q1 q2 q3 q4 q5 q6 hlt2
  have hE3 := Lib.hid (hE2.out.trans hx)
  have hb3 := Lib.hid (hb2.out.ext hx)
  clear hx
  replace hz3 := Lib.hid hz3
  have hb3' := hb3.out
  obtain ⟨q0, q1, q2, q3, q4, q5, q6⟩ := hb3'.parts7
  have hlt3 := hb3'.lt
  clear hb3' hgd
  go_wp2
  clear q0 q1 q2 q3 q4 q5 q6
  obtain ⟨wq, hwq⟩ : ∃ wq, wq = w3.alloc (.cells (roC r (.slice none 0 0)).toArray 26) := ⟨_, rfl⟩
  have hEq := Lib.hid (show Ext w3 wq from hwq ▸ (Ext.refl w3).alloc _)
  have hbq0 := Lib.hid (show Blk wq w3.heap.size 26 (roC r (.slice none 0 0)).toArray from hwq ▸ Blk.new _ _ _)
  unfold roC at hwq
  rw [← hwq]
  clear hwq
  have hw3 := Lib.hid hE3.out.size
  go_loopw [39] (fun i wr => ∃ gs A c, i = .int .i64 ((List.length gs : Nat)) ∧ RvAt r w3 wr gs A c) (fun i _ => r.fl.length - (intOf i).toNat)
  case atStart => exact ⟨[], none, 0, rfl, Nat.zero_le _, rfl, hbq0.out, OwnE.nil _ _ _ _ _, hEq.out⟩
  case round =>
    obtain ⟨gs, Aq, cq, rfl, hat⟩ := hrel
    have hle2 := hat.le
    have hbr := hb3.out.ext hat.ext
    have q6 : wr.cell? ⟨w.heap.size, 6, none⟩ = some (.slice Af r.fl.length cf) := hbr.cell 6
    have hltr := hbr.lt
    replace hbr := Lib.hid hbr
    have hN : w3.heap.size ≤ wr.heap.size := hat.ext.size
    have q9 : wr.cell? ⟨w3.heap.size, 6, none⟩ = some (.slice Aq gs.length cq) := hat.blk.cell 6
    have f9 := hat.blk.frozen 6
    have hlt9 := hat.blk.lt
    have hown := Lib.hid hat.own
    have hbq := Lib.hid hat.blk
    have hXr := Lib.hid hat.ext
    have hpre := Lib.hid hat.pre
    clear hat
    by_cases hlt : gs.length < r.fl.length
    · obtain ⟨m, hm⟩ : ∃ m, m + gs.length + 1 = r.fl.length := ⟨r.fl.length - gs.length - 1, by omega⟩
      obtain ⟨p, hp⟩ : ∃ p, p + 1 = r.fl.length := ⟨r.fl.length - 1, by omega⟩
      have hml : m < r.fl.length := by omega
      obtain ⟨b, o, rfl, c0, c1, c2, c3⟩ := h.out.at m hml
      have hlb : b < w.heap.size := World.block_lt_of_cell? _ _ c0
      have hst2 := Lib.hid (rev_step hpre.out hm hml)
      obtain ⟨f, hf'⟩ : ∃ f, f = r.fl[m] := ⟨_, rfl⟩
      rw [← hf'] at c0 c1 c2 c3 hst2
      clear hf'
      have hwr := hE3.out.trans hXr.out
      replace c0 := hwr.cell c0
      replace c1 := hwr.cell c1
      replace c2 := hwr.cell c2
      replace c3 := hwr.cell c3
      clear hwr
      have hlb3 : b < w3.heap.size := by have := hw3.out; omega
      have hBw := Lib.hid (show w3.heap.size + 1 ≤ wr.heap.size by omega)
      have hw1 : IntKind.i64.wrap ((r.fl.length : Int) - 1) = (p : Int) := (IntWalk.i64_in _ (by omega)).trans (by omega)
      have hw2 : IntKind.i64.wrap ((p : Int) - (gs.length : Int)) = (m : Int) := (IntWalk.i64_in _ (by omega)).trans (by omega)
      have hmi : (m : Int) < r.fl.length := by omega
      have hm0 : (0 : Int) ≤ m := by omega
      have hl20 : gs.length ≤ 1000000 := by omega
      have hgi : (gs.length : Int) < r.fl.length := by omega
      have hlw3 : w.heap.size < w3.heap.size := hlt3
      replace hm := Lib.hid hm
      replace hp := Lib.hid hp
      go_wp2_with fail
      refine wp_region_held_drew (S := fun w' => (∀ b o, b < w3.heap.size → w'.cell? ⟨b, o, none⟩ = wr.cell? ⟨b, o, none⟩) ∧ Kp w3.heap.size wr w') (by kernel_rfl) ((Kp.start hN).drew.both) (fun hHeld => ?_)
      refine wpAnyH_take (i := 0) (oi := ⟨some 42, _, _, _, _, _⟩) (v := ?_) rfl (by kernel_rfl) (by kernel_rfl) (by kernel_rfl) (fun _ _ _ h => h) (Or.inl ⟨by rfl, ?_⟩) hHeld ?_
      rotate_left
      · intro w hSw; go_simp; try with_reducible rfl
      try simp only [Act.put, List.setIfInBounds_toArray, List.set_cons_zero, List.set_cons_succ]
      refine wpAnyH_take (i := 2) (oi := ⟨some 44, _, _, _, _, _⟩) (v := ?_) rfl (by kernel_rfl) (by kernel_rfl) (by kernel_rfl) (fun _ _ _ h => h) (Or.inl ⟨by rfl, ?_⟩) hHeld ?_
      rotate_left
      · intro w hSw; go_simp; try with_reducible rfl
      try simp only [Act.put, List.setIfInBounds_toArray, List.set_cons_zero, List.set_cons_succ]
      refine wpAnyH_take (i := 3) (oi := ⟨some 45, _, _, _, _, _⟩) (v := ?_) rfl (by kernel_rfl) (by kernel_rfl) (by kernel_rfl) (fun _ _ _ h => h) (Or.inl ⟨by rfl, ?_⟩) hHeld ?_
      rotate_left
      · intro w hSw; go_simp; try with_reducible rfl
      try simp only [Act.put, List.setIfInBounds_toArray, List.set_cons_zero, List.set_cons_succ]
      refine wpAnyH_take (i := 4) (oi := ⟨some 46, _, _, _, _, _⟩) (v := ?_) rfl (by kernel_rfl) (by kernel_rfl) (by kernel_rfl) (fun _ _ _ h => h) (Or.inl ⟨by rfl, ?_⟩) hHeld ?_
      rotate_left
      · intro w hSw; go_simp; try with_reducible rfl
      try simp only [Act.put, List.setIfInBounds_toArray, List.set_cons_zero, List.set_cons_succ]
      refine wpAnyH_take (i := 5) (oi := ⟨some 47, _, _, _, _, _⟩) (v := ?_) rfl (by kernel_rfl) (by kernel_rfl) (by kernel_rfl) (fun _ _ _ h => h) (Or.inl ⟨by rfl, ?_⟩) hHeld ?_
      rotate_left
      · intro w hSw; go_simp; try with_reducible rfl
      try simp only [Act.put, List.setIfInBounds_toArray, List.set_cons_zero, List.set_cons_succ]
      refine wpAnyH_take (i := 6) (oi := ⟨some 48, _, _, _, _, _⟩) (v := ?_) rfl (by kernel_rfl) (by kernel_rfl) (by kernel_rfl) (fun _ _ _ h => h) (Or.inl ⟨by rfl, ?_⟩) hHeld ?_
      rotate_left
      · intro w hSw; go_simp; try with_reducible rfl
      try simp only [Act.put, List.setIfInBounds_toArray, List.set_cons_zero, List.set_cons_succ]
      refine wpAnyH_take (i := 7) (oi := ⟨some 49, _, _, _, _, _⟩) (v := ?_) rfl (by kernel_rfl) (by kernel_rfl) (by kernel_rfl) (fun _ _ _ h => h) (Or.inl ⟨by rfl, ?_⟩) hHeld ?_
      rotate_left
      · intro w hSw; go_simp; try with_reducible rfl
      try simp only [Act.put, List.setIfInBounds_toArray, List.set_cons_zero, List.set_cons_succ]
      refine wpAnyH_take (i := 8) (oi := ⟨some 50, _, _, _, _, _⟩) (v := ?_) rfl (by kernel_rfl) (by kernel_rfl) (by kernel_rfl) (fun _ _ _ h => h) (Or.inl ⟨by rfl, ?_⟩) hHeld ?_
      rotate_left
      · intro w hSw; go_simp; try with_reducible rfl
      try simp only [Act.put, List.setIfInBounds_toArray, List.set_cons_zero, List.set_cons_succ]
      refine wpAnyH_take (i := 9) (oi := ⟨some 51, _, _, _, _, _⟩) (v := ?_) rfl (by kernel_rfl) (by kernel_rfl) (by kernel_rfl) (fun _ _ _ h => h) (Or.inl ⟨by rfl, ?_⟩) hHeld ?_
      rotate_left
      · intro w hSw; go_simp; try with_reducible rfl
      try simp only [Act.put, List.setIfInBounds_toArray, List.set_cons_zero, List.set_cons_succ]
      refine wpAnyH_take (i := 10) (oi := ⟨some 52, _, _, _, _, _⟩) (v := ?_) rfl (by kernel_rfl) (by kernel_rfl) (by kernel_rfl) (fun _ _ _ h => h) (Or.inl ⟨by rfl, ?_⟩) hHeld ?_
      rotate_left
      · intro w hSw; go_simp; try with_reducible rfl
      try simp only [Act.put, List.setIfInBounds_toArray, List.set_cons_zero, List.set_cons_succ]
      refine wpAnyH_take (i := 11) (oi := ⟨some 53, _, _, _, _, _⟩) (v := ?_) rfl (by kernel_rfl) (by kernel_rfl) (by kernel_rfl) (fun _ _ _ h => h) (Or.inl ⟨by rfl, ?_⟩) hHeld ?_
      rotate_left
      · intro w hSw; go_simp; try with_reducible rfl
      try simp only [Act.put, List.setIfInBounds_toArray, List.set_cons_zero, List.set_cons_succ]
      refine wpAnyH_ready (rs := [1, 12]) (by kernel_rfl) (by simp) (AllReadyH.cons (o := ⟨some 43, _, _, _, _, _⟩) rfl (fun K hK => ?_) (AllReadyH.cons (o := ⟨some 54, _, _, _, _, _⟩) rfl (fun K hK => ?_) AllReadyH.nil))
      rotate_left
      go_simp
      refine hK.out _ _ ((Kp.start hN).drew.alloc _).both (fun hHeld => ?_)
      clear hK K
      try simp only [Act.put, List.setIfInBounds_toArray, List.set_cons_zero, List.set_cons_succ]
      refine wpAnyH_ready (rs := [1]) (by kernel_rfl) (by simp) (AllReadyH.cons (o := ⟨some 43, _, _, _, _, _⟩) rfl (fun K hK => ?_) AllReadyH.nil)
      go_simp
      refine hK.out _ _ ((Kp.start hN).drew.alloc _).both (fun hHeld => ?_)
      clear hK K
      try simp only [Act.put, List.setIfInBounds_toArray, List.set_cons_zero, List.set_cons_succ]
      rotate_left
      go_simp
      refine hK.out _ _ (Kp.start hN).drew.both (fun hHeld => ?_)
      clear hK K
      try simp only [Act.put, List.setIfInBounds_toArray, List.set_cons_zero, List.set_cons_succ]
      refine wpAnyH_ready (rs := [12]) (by kernel_rfl) (by simp) (AllReadyH.cons (o := ⟨some 54, _, _, _, _, _⟩) rfl (fun K hK => ?_) AllReadyH.nil)
      go_simp
      refine hK.out _ _ ((Kp.start hN).drew.alloc _).both (fun hHeld => ?_)
      clear hK K
      try simp only [Act.put, List.setIfInBounds_toArray, List.set_cons_zero, List.set_cons_succ]
      all_goals
        refine wpAnyH_ready (rs := [13]) (by kernel_rfl) (by simp) (AllReadyH.cons (o := ⟨some 55, _, _, _, _, _⟩) rfl (fun K hK => ?_) AllReadyH.nil)
        rw [if_pos (by rfl)]
        refine wp_appE (α := Fl) (.tmp 43) (.tmp 54) 24 rfl 47 4 (w3.heap.size + 1) 32 _ flC Tryz.underlying24 info_rect rfl (by decide) (by decide) flC_len flC_one (.slice Aq gs.length cq) gs f wr.heap.size 1 rfl ((hown.out.ext (Ext.refl wr).drew).alloc _) rfl (Blk.new wr.drew 47 _) (by omega) (le_alloc_drew hBw.out) ?_
        intro A7 cap7 w7 ho7 hg7
        have hb7 := (hbq.out.drew.alloc _).grown hg7 (fun h => row_ne hown.out hbq.out (by decide) h.symm)
        have hG7 := Lib.hid (grown_after (((Ext.refl wr).alloc _).drew) hg7)
        have hK7 := ((Kp.start hN).drew.alloc (.cells (flC f).toArray 47)).grown hg7 (fun k e => by have := hown.out.base k e; omega)
        refine hK.out _ _ hK7.both (fun hHeld => ?_)
        clear hK K
        try simp only [Act.put, List.setIfInBounds_toArray, List.set_cons_zero, List.set_cons_succ]
        have f97 := hb7.frozen 6
        have hlt7 := hb7.lt
        have q97 : w7.cell? ⟨w3.heap.size, 6, none⟩ = some (.slice Aq gs.length cq) := hb7.cell 6
        replace hb7 := Lib.hid hb7
        replace ho7 := Lib.hid ho7
        replace hg7 := Lib.hid hg7
        refine wpAnyH_take (i := 14) (oi := ⟨some 56, _, _, _, _, _⟩) (v := ?_) rfl (by kernel_rfl) (by kernel_rfl) (by kernel_rfl) (fun _ _ _ h => h) (Or.inl ⟨by rfl, ?_⟩) hHeld ?_
        rotate_left
        · intro w hSw; go_simp; try with_reducible rfl
        try simp only [Act.put, List.setIfInBounds_toArray, List.set_cons_zero, List.set_cons_succ]
        refine wpAnyH_ready (rs := [15]) (by kernel_rfl) (by simp) (AllReadyH.cons (o := ⟨none, _, _, _, _, _⟩) rfl (fun K hK => ?_) AllReadyH.nil)
        go_simp
        refine hK.out _ _ (hK7.set (p := ⟨w3.heap.size, 6, none⟩) (Nat.le_refl _) _).both (fun hHeld => ?_)
        clear hK K
        try simp only [Act.put, List.setIfInBounds_toArray, List.set_cons_zero, List.set_cons_succ]
        refine wpAnyH_done (by kernel_rfl) ?_ _
        obtain ⟨w8, hw8⟩ : ∃ w8, w8 = w7.setCell ⟨w3.heap.size, 6, none⟩ (.slice A7 (gs.length + 1) cap7) := ⟨_, rfl⟩
        have hgr : w7.grownBy w8 (some w3.heap.size) := by rw [hw8]; exact grown_set _ 6 _
        have hq8 := Lib.hid (show Blk w8 w3.heap.size 26 (roC r (.slice A7 (gs.length + 1) cap7)).toArray from hw8 ▸ hb7.out.set_ 6 _)
        have ho8 := Lib.hid (ho7.out.kept hgr (.inr (row_ne ho7.out hb7.out (by decide))))
        have hE8 := Lib.hid (show Ext w3 w8 from hw8 ▸ (hK7.ext hXr.out (Nat.le_refl _)).setCell (p := ⟨w3.heap.size, 6, none⟩) (Nat.le_refl _) _)
        rw [← hw8]
        clear hw8 hgr q97 f97 hlt7 hHeld hK7 c0 c1 c2 c3 q9 f9 hlt9
        go_wp2
        go_roundw
        case rel =>
          refine ⟨gs ++ [f], A7, cap7, by simp only [List.length_append, List.length_singleton]; go_num, ?_, hst2.out, ?_, ?_, hE8.out⟩
          · rw [List.length_append]; exact hlt
          · rw [List.length_append]; exact hq8.out
          · rw [List.length_append]; exact ho8.out
        case measure => simp [intOf]; omega
    · have hgi : ¬ (gs.length : Int) < r.fl.length := by omega
      have hrv := Lib.hid (show gs = r.fl.reverse by
        have h1 := hpre.out
        rwa [List.take_of_length_le (by simp; omega)] at h1)
      obtain ⟨s0, s1, s2, s3, s4, s5, s6⟩ := hbq.out.parts7
      by_cases h0 : 0 < r.fl.length
      · have h0i : (0 : Int) < r.fl.length := by omega
        obtain ⟨b, o, rfl, c0, c1, c2, c3⟩ := h.out.at 0 h0
        have hmem := Lib.hid (show r.fl[0] ∈ r.fl from List.getElem_mem h0)
        rw [Nat.zero_mul, Nat.add_zero] at c0 c1 c2 c3
        obtain ⟨f, hf'⟩ : ∃ f, f = r.fl[0] := ⟨_, rfl⟩
        rw [← hf'] at c0 c1 c2 c3 hmem
        clear hf'
        have hfl := hv.out.flaw f hmem.out
        have hwr := hE3.out.trans hXr.out
        replace c0 := hwr.cell c0
        replace c1 := hwr.cell c1
        replace c2 := hwr.cell c2
        replace c3 := hwr.cell c3
        clear hwr
        have lb := World.block_lt_of_cell? _ _ c0
        have hA0 : 0 ≤ fr % f.w := Int.emod_nonneg _ (by omega)
        have hA1 : fr % f.w < f.w := Int.emod_lt_of_pos _ (by omega)
        go_wp2_with fail
        go_region
        obtain ⟨x1, hx1⟩ : ∃ x, x = f.x + fr % f.w := ⟨_, rfl⟩
        rw [← hx1]
        obtain ⟨wf, hwf⟩ : ∃ wf, wf = (wr.alloc (.cells (flC ⟨x1, f.y, f.w, f.h⟩).toArray 47)).drew := ⟨_, rfl⟩
        have hEf := Lib.hid (show Ext wr wf from hwf ▸ ((Ext.refl wr).alloc _).drew)
        have hbF := Lib.hid (show Blk wf wr.heap.size 47 (flC ⟨x1, f.y, f.w, f.h⟩).toArray from hwf ▸ (Blk.new wr _ _).drew)
        unfold flC at hwf
        rw [← hwf]
        clear hwf s0 s1 s2 s3 s4 s5 s6 q9 f9 hlt9
        replace c0 := hEf.out.cell c0
        replace c1 := hEf.out.cell c1
        replace c2 := hEf.out.cell c2
        replace c3 := hEf.out.cell c3
        replace q6 := hEf.out.cell q6
        replace lb := World.block_lt_of_cell? _ _ c0
        replace hltr := World.block_lt_of_cell? _ _ q6
        obtain ⟨s0, s1, s2, s3⟩ := hbF.out.parts4
        have e0 := hbF.out.frozen 0
        have e2 := hbF.out.frozen 2
        have hltF := hbF.out.lt
        have hD : 1 ≤ f.x + f.w - x1 := by omega
        have hD0 : (f.x + f.w - x1 == 0) = false := by simp; omega
        have hD1 : ¬ f.x + f.w - x1 = 0 := by omega
        have hB0 : 0 ≤ sz % (f.x + f.w - x1) := Int.emod_nonneg _ (by omega)
        have hB1 : sz % (f.x + f.w - x1) < f.x + f.w - x1 := Int.emod_lt_of_pos _ (by omega)
        have hx1a : f.x ≤ x1 := by omega
        have hx1b : x1 < f.x + f.w := by omega
        replace hx1 := Lib.hid hx1
        go_wp2_with fail
        go_region
        obtain ⟨y1, hy1⟩ : ∃ y, y = 1 + sz % (f.x + f.w - x1) := ⟨_, rfl⟩
        rw [← hy1]
        obtain ⟨g, hg⟩ : ∃ g, g = (⟨x1, f.y, y1, f.h⟩ : Fl) := ⟨_, rfl⟩
        obtain ⟨wg, hwg⟩ : ∃ wg, wg = (wf.setCell ⟨wr.heap.size, 2, none⟩ (.int .i64 y1)).drew := ⟨_, rfl⟩
        have hEg := Lib.hid (show Ext wr wg from hwg ▸ (hEf.out.setCell (p := ⟨wr.heap.size, 2, none⟩) (Nat.le_refl _) _).drew)
        have hbG := Lib.hid (show Blk wg wr.heap.size 47 (flC ⟨x1, f.y, y1, f.h⟩).toArray from hwg ▸ (hbF.out.set_ 2 _).drew)
        rw [← hwg]
        clear hwg s0 s1 s2 s3 e0 e2 hltF c0 c1 c2 c3 q6 lb hltr
        obtain ⟨s0, s1, s2, s3⟩ := hbG.out.parts4
        have hltG := hbG.out.lt
        have hownG := Lib.hid (hown.out.ext hEg.out)
        have hbqG := Lib.hid (hbq.out.ext hEg.out)
        have q9 : wg.cell? ⟨w3.heap.size, 6, none⟩ = some (.slice Aq gs.length cq) := hbqG.out.cell 6
        have hlt9 := hbqG.out.lt
        have hl20 : gs.length ≤ 1000000 := by omega
        have hsz9 : w3.heap.size + 1 ≤ wg.heap.size := hlt9
        have hgfit := Lib.hid (show fitOk r ⟨x1, f.y, y1, f.h⟩ = true ∧ zones r.len (r.fl.reverse ++ [⟨x1, f.y, y1, f.h⟩]) = zones r.len r.fl ∧ FlI ⟨x1, f.y, y1, f.h⟩ by
          have e1 : (⟨x1, f.y, y1, f.h⟩ : Fl) = inner f (fr % f.w) (sz % (f.x + f.w - x1)) := by unfold inner; rw [hx1.out, hy1, hx1.out]
          have hb : 0 ≤ sz % (f.x + f.w - x1) ∧ sz % (f.x + f.w - x1) < f.w - fr % f.w := ⟨hB0, by have := hx1.out; omega⟩
          have k1 := inner_valid hv.out hmem.out ⟨hA0, hA1⟩ hb
          have k2 := order_zones hv.out hmem.out ⟨hA0, hA1⟩ hb
          rw [← e1] at k1 k2
          refine ⟨k1, k2, ?_⟩
          have := hv.out.wid
          unfold FlI I64
          simp only
          omega)
        replace hy1 := Lib.hid hy1
        clear hB0 hB1 hD0 hD1
        go_wp2_with (at_builtin; refine wpList_appE (α := Fl) rfl (.tmp 95) (.tmp 97) 24 rfl 47 4 (w3.heap.size + 1) 32 _ flC Tryz.underlying24 info_rect rfl (by decide) (by decide) flC_len flC_one _ gs ⟨x1, f.y, y1, f.h⟩ wg.heap.size 1 rfl (hownG.out.alloc _) rfl (Blk.cells_of (Blk.at rfl)) hl20 (by simp; omega) ?_; intro A6 c6 w6 ho6 hg6 _; have hb6 := (hbqG.out.alloc (.cells (flC ⟨x1, f.y, y1, f.h⟩).toArray 47)).grown hg6 (fun e => row_ne (hownG.out.alloc (.cells (flC ⟨x1, f.y, y1, f.h⟩).toArray 47)) (hbqG.out.alloc (.cells (flC ⟨x1, f.y, y1, f.h⟩).toArray 47)) (by decide) e.symm); have hx6 := Lib.hid ((hownG.out.alloc (.cells (flC ⟨x1, f.y, y1, f.h⟩).toArray 47)).extGrown ((hXr.out.trans hEg.out).alloc _) (Nat.le_succ _) hg6); obtain ⟨p0, p1, p2, p3, p4, p5, p6⟩ := hb6.parts7; have f6 := hb6.frozen 6; have l6 := hb6.lt; replace ho6 := Lib.hid ho6; replace hg6 := Lib.hid hg6; replace hb6 := Lib.hid hb6)
        obtain ⟨w8, hw8⟩ : ∃ w8, w8 = w6.setCell ⟨w3.heap.size, 6, none⟩ (.slice A6 (gs.length + 1) c6) := ⟨_, rfl⟩
        have hgr : w6.grownBy w8 (some w3.heap.size) := by rw [hw8]; exact grown_set _ 6 _
        have ho8 := Lib.hid (ho6.out.kept hgr (.inr (row_ne ho6.out hb6.out (by decide))))
        have hE8 := Lib.hid (show Ext w3 w8 from hw8 ▸ hx6.out.setCell (p := ⟨w3.heap.size, 6, none⟩) (Nat.le_refl _) _)
        rw [← hw8]
        clear hw8 hgr p0 p1 p2 p3 p4 p5 p6 f6 l6 s0 s1 s2 s3
        have hrd8 := Lib.hid (show RdF w8 (.slice A6 (gs.length + 1) c6) (gs ++ [⟨x1, f.y, y1, f.h⟩]) from ho8.out.rdF fun k hk => by
          rcases List.mem_append.1 hk with hk | hk
          · rw [hrv.out] at hk
            exact h.out.i64 k (List.mem_reverse.1 hk)
          · rw [List.mem_singleton] at hk
            subst hk
            exact hgfit.out.2.2)
        have hst8 := Lib.hid (show strP { r with fl := gs ++ [⟨x1, f.y, y1, f.h⟩] } 1 = (zones r.len r.fl, 0) by
          rw [strP_one (turned_valid hv.out (by omega) (fun k hk => ?_) (by rw [List.length_append]; simp; omega))]
          · show (zones r.len (gs ++ [⟨x1, f.y, y1, f.h⟩]), (0 : Int)) = _
            rw [hrv.out, hgfit.out.2.1]
          · rcases List.mem_append.1 hk with hk | hk
            · rw [hrv.out] at hk
              exact .inl (List.mem_reverse.1 hk)
            · rw [List.mem_singleton] at hk
              subst hk
              exact .inr hgfit.out.1)
        have hcs2 := Lib.hid (fun w h => c_stretches { r with fl := gs ++ [⟨x1, f.y, y1, f.h⟩] } (.slice A6 (gs.length + 1) c6) 1 w h hid)
        unfold roV at hcs2
        refine (hcs2.out _ hrd8.out).mono ?_
        intro e w9 he
        obtain ⟨A9, c9, rfl, hz9, hx⟩ := he.open_ hst8.out
        clear he
        have hE9 := Lib.hid (hE8.out.trans hx)
        have hF9 := Lib.hid (hE3.out.trans hE9.out)
        replace hz9 := Lib.hid hz9
        clear hx
        go_wp2_with fail
        refine (c_zones _ _ (zones r.len r.fl) _ (hz3.out.ext hE9.out) hz9.out).mono ?_
        rintro e w10 ⟨rfl, hx⟩
        have hF10 := Lib.hid (hF9.out.trans hx)
        clear hx
        go_wp2_with fail
        refine (c_example _ (ht.out.ext hF10.out)).mono ?_
        rintro e w11 ⟨rfl, hx⟩
        replace hx := Lib.hid hx
        go_wp2
        go_ret
        exact ⟨rfl, hF10.out.trans hx.out⟩
      · have h0i : ¬ (0 : Int) < r.fl.length := by omega
        have h00 := Lib.hid (show r.fl = [] from List.length_eq_zero_iff.1 (by omega))
        have hrd8 := Lib.hid (show RdF wr (.slice Aq gs.length cq) gs from (hown.out.rdF fun k hk => by rw [hrv.out, h00.out] at hk; cases hk))
        have hst8 := Lib.hid (show strP { r with fl := gs } 1 = (zones r.len r.fl, 0) by
          have e : gs = r.fl := by rw [hrv.out, h00.out]; rfl
          rw [e]
          exact hst.out)
        go_wp2_with fail
        have hcs2 := Lib.hid (fun w h => c_stretches { r with fl := gs } (.slice Aq gs.length cq) 1 w h hid)
        unfold roV at hcs2
        refine (hcs2.out _ hrd8.out).mono ?_
        intro e w9 he
        obtain ⟨A9, c9, rfl, hz9, hx⟩ := he.open_ hst8.out
        clear he
        have hE9 := Lib.hid (hXr.out.trans hx)
        have hF9 := Lib.hid (hE3.out.trans hE9.out)
        replace hz9 := Lib.hid hz9
        clear hx
        go_wp2_with fail
        refine (c_zones _ _ (zones r.len r.fl) _ (hz3.out.ext hE9.out) hz9.out).mono ?_
        rintro e w10 ⟨rfl, hx⟩
        have hF10 := Lib.hid (hF9.out.trans hx)
        clear hx
        go_wp2_with fail
        refine (c_example _ (ht.out.ext hF10.out)).mono ?_
        rintro e w11 ⟨rfl, hx⟩
        replace hx := Lib.hid hx
        go_wp2
        go_ret
        exact ⟨rfl, hF10.out.trans hx.out⟩

end Go.Proofs.YtphaigncbenmmaaGreatDoor
