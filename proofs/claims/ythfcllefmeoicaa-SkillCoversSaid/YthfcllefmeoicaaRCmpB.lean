/- Contract of the reference's comparison of ratios, at 0. -/
import Derived.Test.YthfcllefmeoicaaRRatB
import Derived.Test.YthfcllefmeoicaaRCmp
import Derived.Test.YthfcllefmeoicaaMatch
namespace Go.Proofs.Ythfcllefmeoicaa
open Go.RowKit
attribute [local go_sem ↓] Go.wp_at_zero Go.wp_at_succ

theorem info47 : (Try.prog.info? 47).map (·.size) = some 3 := by kernel_rfl

theorem one3 (E : Option Addr) (x : Nat) : (#[Value.bool false, .slice none 0 0, .slice E 1 x]).all (·.oneCell') = true := by
  apply all_oneCell_toArray
  intro v hv
  simp at hv
  rcases hv with rfl | rfl | rfl <;> rfl

theorem wp_store_whole {P : Program} {op : Oper} {a : Act} {w : World} {K : Act → World → Prop} {Q : Exit → Act → World → Prop} (ty : TypeId) (x y : Operand) (ho : op.op = .store ty x y)
    (g : Nat) (t : TypeId) (cs0 cs : Array Value) (hx : a.eval x = .pointer (some ⟨g, 0, none⟩)) (hy : a.eval y = .agg cs) (hb : Blk w g t cs0) (hs : cs0.size = cs.size)
    (hi : (P.info? ty).map (·.size) = some cs.size) (h1 : cs.all (·.oneCell') = true)
    (h : ∀ w', Blk w' g t cs → Two g g w w' → K (a.put op.dst undef) w') : op.wp P a w K Q :=
  wp_store_mid ty x y ho g 0 cs hx hy (there_blk hb _ (by omega)) hi h1
    (h _ (by have := setCells_all hb cs.toList (by simpa using hs); simpa using this) (setCells_two g _ 0 w))

theorem Kp.two {N : Nat} {W w w' : World} {g : Nat} (h : Kp N W w) (t : Two g g w w') (hg : N ≤ g) : Kp N W w' := ⟨h.1, h.2.trans (t.below hg hg)⟩
/-- no cell of the array is a number -/
def noInt (cs : Array Value) : Bool := cs.all fun v => match v with | .int _ _ => false | _ => true
theorem nz3 : noInt #[.bool false, .slice none 0 0, .slice none 0 0] = true := by kernel_rfl
theorem RdN.two {w w' : World} {v : Value} {xs : List Int} {g : Nat} {t : TypeId} {cs : Array Value} (h : RdN w v xs) (ht : Two g g w w') (hb : Blk w g t cs) (hn : noInt cs = true) : RdN w' v xs := by
  obtain ⟨A, cap, rfl, h1, h2, h3⟩ := h
  refine ⟨A, cap, rfl, h1, h2, fun j hj => ?_⟩
  obtain ⟨b, o, rfl, hc⟩ := h3 j hj
  refine ⟨b, o, rfl, ?_⟩
  have hne : b ≠ g := fun e => by
    subst e
    rw [hb.cell] at hc
    unfold noInt at hn
    rw [Array.all_eq_true_iff_forall_mem] at hn
    have := hn _ (Array.mem_of_getElem? hc)
    cases this
  have e : w'.cell? ⟨b, o + j, none⟩ = w.cell? ⟨b, o + j, none⟩ := World.cell?_of_block (ht.block b hne hne)
  rw [e]; exact hc
theorem mk_new {N : Nat} {W w : World} (h : Kp N W w) : Blk (w.alloc (.cells #[.bool false, .slice none 0 0, .slice none 0 0] 47)) w.heap.size 47 #[.bool false, .slice none 0 0, .slice none 0 0] ∧ N ≤ w.heap.size ∧ Ext w (w.alloc (.cells #[.bool false, .slice none 0 0, .slice none 0 0] 47)) :=
  ⟨Blk.new _ _ _, Nat.le_trans h.1 h.size, (Ext.refl _).alloc _⟩

set_option maxRecDepth 100000 in
set_option maxHeartbeats 4000000 in
theorem c_rRatCmp0 (u v : Value) (A B : Option Addr) (n m c d : Nat) (w : World) (h : RdN w u []) (g : RdN w v []) :
    Calls Try.prog 76 #[.agg #[.bool false, u, .slice A n c], .agg #[.bool false, v, .slice B m d]] w fun e w' => e = .returned (.int .i64 0) ∧ Ext w w' := by
  obtain ⟨A0, cap0, rfl⟩ := h.slice
  obtain ⟨A1, cap1, rfl⟩ := g.slice
  have hh := Lib.hid h
  have gg := Lib.hid g
  clear h g
  go_enter Try.func76, Try.ntmps76
  go_wp2_with fail
  have b0 := (Blk.new w 47 #[.bool false, .slice A0 0 cap0, .slice A n c]).alloc (.cells #[.bool false, .slice A1 0 cap1, .slice B m d] 47)
  have b1 := Blk.new (w.alloc (.cells #[.bool false, .slice A0 0 cap0, .slice A n c] 47)) 47 #[.bool false, .slice A1 0 cap1, .slice B m d]
  have hX := ((Ext.refl w).alloc (.cells #[.bool false, .slice A0 0 cap0, .slice A n c] 47)).alloc (.cells #[.bool false, .slice A1 0 cap1, .slice B m d] 47)
  simp only [World.size_alloc] at b1
  generalize (w.alloc (.cells #[.bool false, .slice A0 0 cap0, .slice A n c] 47)).alloc (.cells #[.bool false, .slice A1 0 cap1, .slice B m d] 47) = W at b0 b1 hX ⊢
  obtain ⟨p0, p1, p2, _⟩ := b0.parts3
  obtain ⟨p3, p4, p5, _⟩ := b1.parts3
  have l0 : w.heap.size < W.heap.size := b0.lt
  have l1 : w.heap.size + 1 < W.heap.size := b1.lt
  go_cut [5, 6] (fun s5 s6 wc => ∃ g5 g6 E x F y, s5 = .pointer (some ⟨g5, 0, none⟩) ∧ s6 = .pointer (some ⟨g6, 0, none⟩) ∧ Blk wc g5 47 #[.bool false, .slice none 0 0, .slice E 1 x] ∧ Blk wc g6 47 #[.bool false, .slice none 0 0, .slice F 1 y] ∧ RdN wc (.slice E 1 x) [1] ∧ RdN wc (.slice F 1 y) [1] ∧ Kp W.heap.size W wc)
  case first =>
    refine wp_region_held_drew (S := fun w' => (∀ b o, b < W.heap.size → w'.cell? ⟨b, o, none⟩ = W.cell? ⟨b, o, none⟩) ∧ Kp W.heap.size W w') (by kernel_rfl) ((Kp.start (Nat.le_refl _)).drew.both) (fun hHeld => ?_)
    refine wpAnyH_take (i := 0) (oi := ⟨some 7, _, _, _, _, _⟩) (v := .agg #[.bool false, .slice A0 0 cap0, .slice A n c]) rfl (by kernel_rfl) (by kernel_rfl) (by kernel_rfl) (fun _ _ _ h => h) (Or.inl ⟨by rfl, by intro w hSw; go_simp⟩) hHeld ?_
    try simp only [Act.put, List.setIfInBounds_toArray, List.set_cons_zero, List.set_cons_succ]
    refine wpAnyH_take (i := 2) (oi := ⟨some 9, _, _, _, _, _⟩) (v := .agg #[.bool false, .slice A1 0 cap1, .slice B m d]) rfl (by kernel_rfl) (by kernel_rfl) (by kernel_rfl) (fun _ _ _ h => h) (Or.inl ⟨by rfl, by intro w hSw; go_simp⟩) hHeld ?_
    try simp only [Act.put, List.setIfInBounds_toArray, List.set_cons_zero, List.set_cons_succ]
    clear p0 p1 p2 p3 p4 p5 b0 b1 l0 l1
    generalize W.drew = W0 at hHeld ⊢
    refine wpAnyH_ready (rs := [1, 4, 5]) (by kernel_rfl) (by simp) ?_
    refine AllReadyH.cons (o := ⟨some 8, _, _, _, _, _⟩) rfl (fun K hK => ?_) ?_
    · go_simp
      refine (c_rRatNorm0 _ _ _ _ _ hh.out.empty).mono ?_
      rintro e w1 ⟨_, rfl, r1, _, he⟩
      obtain ⟨A2, cap2, rfl⟩ := r1.slice
      have kp := hHeld.2.call he
      clear he
      go_wp2_with fail
      refine hK.out _ _ kp.both (fun hHeld => ?_)
      clear hK K kp
      try simp only [Act.put, List.setIfInBounds_toArray, List.set_cons_zero, List.set_cons_succ]
      refine wpAnyH_ready (rs := [3, 4, 5]) (by kernel_rfl) (by simp) ?_
      refine AllReadyH.cons (o := ⟨some 10, _, _, _, _, _⟩) rfl (fun K hK => ?_) ?_
      · go_simp
        refine (c_rRatNorm0 _ _ _ _ _ gg.out.empty).mono ?_
        rintro e w3 ⟨_, rfl, r3, _, he⟩
        obtain ⟨A3, cap3, rfl⟩ := r3.slice
        have kp := hHeld.2.call he
        replace r1 := r1.ext he
        clear he
        go_wp2_with fail
        refine hK.out _ _ kp.both (fun hHeld => ?_)
        clear hK K kp
        try simp only [Act.put, List.setIfInBounds_toArray, List.set_cons_zero, List.set_cons_succ]
        refine wpAnyH_ready (rs := [4, 5]) (by kernel_rfl) (by simp) ?_
        refine AllReadyH.cons (o := ⟨some 5, _, _, _, _, _⟩) rfl (fun K hK => ?_) ?_
        · go_simp
          refine hK.out _ _ (hHeld.2.alloc _).both (fun hHeld' => ?_)
          clear hK K
          obtain ⟨b5, n5, hx⟩ := mk_new hHeld.2
          replace r1 := r1.ext hx
          replace r3 := r3.ext hx
          clear hx hHeld
          generalize World.alloc _ (.cells #[.bool false, .slice none 0 0, .slice none 0 0] 47) = v1 at *
          generalize Array.size (World.heap _) = g5 at b5 n5 ⊢
          have hHeld := hHeld'
          clear hHeld'
          try simp only [Act.put, List.setIfInBounds_toArray, List.set_cons_zero, List.set_cons_succ]
          refine wpAnyH_ready (rs := [5]) (by kernel_rfl) (by simp) ?_
          refine AllReadyH.cons (o := ⟨some 6, _, _, _, _, _⟩) rfl (fun K hK => ?_) ?_
          · go_simp
            refine hK.out _ _ (hHeld.2.alloc _).both (fun hHeld' => ?_)
            clear hK K
            obtain ⟨b6, n6, hx⟩ := mk_new hHeld.2
            replace r1 := r1.ext hx
            replace r3 := r3.ext hx
            have n56 := Nat.ne_of_lt b5.lt
            replace b5 := b5.ext hx
            clear hx hHeld
            generalize World.alloc _ (.cells #[.bool false, .slice none 0 0, .slice none 0 0] 47) = v2 at *
            generalize Array.size (World.heap _) = g6 at b6 n6 n56 ⊢
            have hHeld := hHeld'
            clear hHeld'
            try simp only [Act.put, List.setIfInBounds_toArray, List.set_cons_zero, List.set_cons_succ]
            refine wpAnyH_ready (rs := [6]) (by kernel_rfl) (by simp) (AllReadyH.cons (o := ⟨none, _, _, _, _, _⟩) rfl (fun K hK => ?_) AllReadyH.nil)
            rw [if_pos (by rfl)]
            refine wp_store_whole 47 (.tmp 5) (.tmp 8) rfl g5 47 #[.bool false, .slice none 0 0, .slice none 0 0] #[.bool false, .slice none 0 0, .slice A2 1 cap2] rfl rfl b5 rfl info47 (one3 _ _) ?_
            intro w5 b5' t5
            have kp5 := hHeld.2.two t5 n5
            refine hK.out _ _ kp5.both (fun hHeld5 => ?_)
            clear hK K
            have b6' := t5.blk b6 n56.symm n56.symm
            have r1' := r1.two t5 b5 nz3
            have r3' := r3.two t5 b5 nz3
            try simp only [Act.put]
            refine wpAnyH_ready (rs := [7]) (by kernel_rfl) (by simp) (AllReadyH.cons (o := ⟨none, _, _, _, _, _⟩) rfl (fun K hK => ?_) AllReadyH.nil)
            rw [if_pos (by rfl)]
            refine wp_store_whole 47 (.tmp 6) (.tmp 10) rfl g6 47 #[.bool false, .slice none 0 0, .slice none 0 0] #[.bool false, .slice none 0 0, .slice A3 1 cap3] rfl rfl b6' rfl info47 (one3 _ _) ?_
            intro w6 b6'' t6
            refine hK.out _ _ (kp5.two t6 n6).both (fun hHeld6 => ?_)
            clear hK K
            try simp only [Act.put]
            refine wpAnyH_done (by kernel_rfl) ?_ _
            go_wp2_with fail
            go_meet
            exact ⟨g5, g6, A2, cap2, A3, cap3, rfl, rfl, t6.blk b5' n56 n56, b6'', r1'.two t6 b6' nz3, r3'.two t6 b6' nz3, kp5.two t6 n6⟩
          exact AllReadyH.nil
        refine AllReadyH.cons (o := ⟨some 6, _, _, _, _, _⟩) rfl (fun K hK => ?_) ?_
        · go_simp
          refine hK.out _ _ (hHeld.2.alloc _).both (fun hHeld' => ?_)
          clear hK K
          obtain ⟨b6, n6, hx⟩ := mk_new hHeld.2
          replace r1 := r1.ext hx
          replace r3 := r3.ext hx
          clear hx hHeld
          generalize World.alloc _ (.cells #[.bool false, .slice none 0 0, .slice none 0 0] 47) = v3 at *
          generalize Array.size (World.heap _) = g6 at b6 n6 ⊢
          have hHeld := hHeld'
          clear hHeld'
          try simp only [Act.put, List.setIfInBounds_toArray, List.set_cons_zero, List.set_cons_succ]
          refine wpAnyH_ready (rs := [4]) (by kernel_rfl) (by simp) ?_
          refine AllReadyH.cons (o := ⟨some 5, _, _, _, _, _⟩) rfl (fun K hK => ?_) ?_
          · go_simp
            refine hK.out _ _ (hHeld.2.alloc _).both (fun hHeld' => ?_)
            clear hK K
            obtain ⟨b5, n5, hx⟩ := mk_new hHeld.2
            replace r1 := r1.ext hx
            replace r3 := r3.ext hx
            have n56 := Nat.ne_of_gt b6.lt
            replace b6 := b6.ext hx
            clear hx hHeld
            generalize World.alloc _ (.cells #[.bool false, .slice none 0 0, .slice none 0 0] 47) = v4 at *
            generalize Array.size (World.heap _) = g5 at b5 n5 n56 ⊢
            have hHeld := hHeld'
            clear hHeld'
            try simp only [Act.put, List.setIfInBounds_toArray, List.set_cons_zero, List.set_cons_succ]
            refine wpAnyH_ready (rs := [6]) (by kernel_rfl) (by simp) (AllReadyH.cons (o := ⟨none, _, _, _, _, _⟩) rfl (fun K hK => ?_) AllReadyH.nil)
            rw [if_pos (by rfl)]
            refine wp_store_whole 47 (.tmp 5) (.tmp 8) rfl g5 47 #[.bool false, .slice none 0 0, .slice none 0 0] #[.bool false, .slice none 0 0, .slice A2 1 cap2] rfl rfl b5 rfl info47 (one3 _ _) ?_
            intro w5 b5' t5
            have kp5 := hHeld.2.two t5 n5
            refine hK.out _ _ kp5.both (fun hHeld5 => ?_)
            clear hK K
            have b6' := t5.blk b6 n56.symm n56.symm
            have r1' := r1.two t5 b5 nz3
            have r3' := r3.two t5 b5 nz3
            try simp only [Act.put]
            refine wpAnyH_ready (rs := [7]) (by kernel_rfl) (by simp) (AllReadyH.cons (o := ⟨none, _, _, _, _, _⟩) rfl (fun K hK => ?_) AllReadyH.nil)
            rw [if_pos (by rfl)]
            refine wp_store_whole 47 (.tmp 6) (.tmp 10) rfl g6 47 #[.bool false, .slice none 0 0, .slice none 0 0] #[.bool false, .slice none 0 0, .slice A3 1 cap3] rfl rfl b6' rfl info47 (one3 _ _) ?_
            intro w6 b6'' t6
            refine hK.out _ _ (kp5.two t6 n6).both (fun hHeld6 => ?_)
            clear hK K
            try simp only [Act.put]
            refine wpAnyH_done (by kernel_rfl) ?_ _
            go_wp2_with fail
            go_meet
            exact ⟨g5, g6, A2, cap2, A3, cap3, rfl, rfl, t6.blk b5' n56 n56, b6'', r1'.two t6 b6' nz3, r3'.two t6 b6' nz3, kp5.two t6 n6⟩
          exact AllReadyH.nil
        exact AllReadyH.nil
      refine AllReadyH.cons (o := ⟨some 5, _, _, _, _, _⟩) rfl (fun K hK => ?_) ?_
      · go_simp
        refine hK.out _ _ (hHeld.2.alloc _).both (fun hHeld' => ?_)
        clear hK K
        obtain ⟨b5, n5, hx⟩ := mk_new hHeld.2
        replace r1 := r1.ext hx
        clear hx hHeld
        generalize World.alloc _ (.cells #[.bool false, .slice none 0 0, .slice none 0 0] 47) = v5 at *
        generalize Array.size (World.heap _) = g5 at b5 n5 ⊢
        have hHeld := hHeld'
        clear hHeld'
        try simp only [Act.put, List.setIfInBounds_toArray, List.set_cons_zero, List.set_cons_succ]
        refine wpAnyH_ready (rs := [3, 5]) (by kernel_rfl) (by simp) ?_
        refine AllReadyH.cons (o := ⟨some 10, _, _, _, _, _⟩) rfl (fun K hK => ?_) ?_
        · go_simp
          refine (c_rRatNorm0 _ _ _ _ _ gg.out.empty).mono ?_
          rintro e w3 ⟨_, rfl, r3, _, he⟩
          obtain ⟨A3, cap3, rfl⟩ := r3.slice
          have kp := hHeld.2.call he
          replace r1 := r1.ext he
          replace b5 := b5.ext he
          clear he
          go_wp2_with fail
          refine hK.out _ _ kp.both (fun hHeld => ?_)
          clear hK K kp
          try simp only [Act.put, List.setIfInBounds_toArray, List.set_cons_zero, List.set_cons_succ]
          refine wpAnyH_ready (rs := [5]) (by kernel_rfl) (by simp) ?_
          refine AllReadyH.cons (o := ⟨some 6, _, _, _, _, _⟩) rfl (fun K hK => ?_) ?_
          · go_simp
            refine hK.out _ _ (hHeld.2.alloc _).both (fun hHeld' => ?_)
            clear hK K
            obtain ⟨b6, n6, hx⟩ := mk_new hHeld.2
            replace r1 := r1.ext hx
            replace r3 := r3.ext hx
            have n56 := Nat.ne_of_lt b5.lt
            replace b5 := b5.ext hx
            clear hx hHeld
            generalize World.alloc _ (.cells #[.bool false, .slice none 0 0, .slice none 0 0] 47) = v6 at *
            generalize Array.size (World.heap _) = g6 at b6 n6 n56 ⊢
            have hHeld := hHeld'
            clear hHeld'
            try simp only [Act.put, List.setIfInBounds_toArray, List.set_cons_zero, List.set_cons_succ]
            refine wpAnyH_ready (rs := [6]) (by kernel_rfl) (by simp) (AllReadyH.cons (o := ⟨none, _, _, _, _, _⟩) rfl (fun K hK => ?_) AllReadyH.nil)
            rw [if_pos (by rfl)]
            refine wp_store_whole 47 (.tmp 5) (.tmp 8) rfl g5 47 #[.bool false, .slice none 0 0, .slice none 0 0] #[.bool false, .slice none 0 0, .slice A2 1 cap2] rfl rfl b5 rfl info47 (one3 _ _) ?_
            intro w5 b5' t5
            have kp5 := hHeld.2.two t5 n5
            refine hK.out _ _ kp5.both (fun hHeld5 => ?_)
            clear hK K
            have b6' := t5.blk b6 n56.symm n56.symm
            have r1' := r1.two t5 b5 nz3
            have r3' := r3.two t5 b5 nz3
            try simp only [Act.put]
            refine wpAnyH_ready (rs := [7]) (by kernel_rfl) (by simp) (AllReadyH.cons (o := ⟨none, _, _, _, _, _⟩) rfl (fun K hK => ?_) AllReadyH.nil)
            rw [if_pos (by rfl)]
            refine wp_store_whole 47 (.tmp 6) (.tmp 10) rfl g6 47 #[.bool false, .slice none 0 0, .slice none 0 0] #[.bool false, .slice none 0 0, .slice A3 1 cap3] rfl rfl b6' rfl info47 (one3 _ _) ?_
            intro w6 b6'' t6
            refine hK.out _ _ (kp5.two t6 n6).both (fun hHeld6 => ?_)
            clear hK K
            try simp only [Act.put]
            refine wpAnyH_done (by kernel_rfl) ?_ _
            go_wp2_with fail
            go_meet
            exact ⟨g5, g6, A2, cap2, A3, cap3, rfl, rfl, t6.blk b5' n56 n56, b6'', r1'.two t6 b6' nz3, r3'.two t6 b6' nz3, kp5.two t6 n6⟩
          exact AllReadyH.nil
        refine AllReadyH.cons (o := ⟨some 6, _, _, _, _, _⟩) rfl (fun K hK => ?_) ?_
        · go_simp
          refine hK.out _ _ (hHeld.2.alloc _).both (fun hHeld' => ?_)
          clear hK K
          obtain ⟨b6, n6, hx⟩ := mk_new hHeld.2
          replace r1 := r1.ext hx
          have n56 := Nat.ne_of_lt b5.lt
          replace b5 := b5.ext hx
          clear hx hHeld
          generalize World.alloc _ (.cells #[.bool false, .slice none 0 0, .slice none 0 0] 47) = v7 at *
          generalize Array.size (World.heap _) = g6 at b6 n6 n56 ⊢
          have hHeld := hHeld'
          clear hHeld'
          try simp only [Act.put, List.setIfInBounds_toArray, List.set_cons_zero, List.set_cons_succ]
          refine wpAnyH_ready (rs := [3]) (by kernel_rfl) (by simp) ?_
          refine AllReadyH.cons (o := ⟨some 10, _, _, _, _, _⟩) rfl (fun K hK => ?_) ?_
          · go_simp
            refine (c_rRatNorm0 _ _ _ _ _ gg.out.empty).mono ?_
            rintro e w3 ⟨_, rfl, r3, _, he⟩
            obtain ⟨A3, cap3, rfl⟩ := r3.slice
            have kp := hHeld.2.call he
            replace r1 := r1.ext he
            replace b5 := b5.ext he
            replace b6 := b6.ext he
            clear he
            go_wp2_with fail
            refine hK.out _ _ kp.both (fun hHeld => ?_)
            clear hK K kp
            try simp only [Act.put, List.setIfInBounds_toArray, List.set_cons_zero, List.set_cons_succ]
            refine wpAnyH_ready (rs := [6]) (by kernel_rfl) (by simp) (AllReadyH.cons (o := ⟨none, _, _, _, _, _⟩) rfl (fun K hK => ?_) AllReadyH.nil)
            rw [if_pos (by rfl)]
            refine wp_store_whole 47 (.tmp 5) (.tmp 8) rfl g5 47 #[.bool false, .slice none 0 0, .slice none 0 0] #[.bool false, .slice none 0 0, .slice A2 1 cap2] rfl rfl b5 rfl info47 (one3 _ _) ?_
            intro w5 b5' t5
            have kp5 := hHeld.2.two t5 n5
            refine hK.out _ _ kp5.both (fun hHeld5 => ?_)
            clear hK K
            have b6' := t5.blk b6 n56.symm n56.symm
            have r1' := r1.two t5 b5 nz3
            have r3' := r3.two t5 b5 nz3
            try simp only [Act.put]
            refine wpAnyH_ready (rs := [7]) (by kernel_rfl) (by simp) (AllReadyH.cons (o := ⟨none, _, _, _, _, _⟩) rfl (fun K hK => ?_) AllReadyH.nil)
            rw [if_pos (by rfl)]
            refine wp_store_whole 47 (.tmp 6) (.tmp 10) rfl g6 47 #[.bool false, .slice none 0 0, .slice none 0 0] #[.bool false, .slice none 0 0, .slice A3 1 cap3] rfl rfl b6' rfl info47 (one3 _ _) ?_
            intro w6 b6'' t6
            refine hK.out _ _ (kp5.two t6 n6).both (fun hHeld6 => ?_)
            clear hK K
            try simp only [Act.put]
            refine wpAnyH_done (by kernel_rfl) ?_ _
            go_wp2_with fail
            go_meet
            exact ⟨g5, g6, A2, cap2, A3, cap3, rfl, rfl, t6.blk b5' n56 n56, b6'', r1'.two t6 b6' nz3, r3'.two t6 b6' nz3, kp5.two t6 n6⟩
          exact AllReadyH.nil
        exact AllReadyH.nil
      refine AllReadyH.cons (o := ⟨some 6, _, _, _, _, _⟩) rfl (fun K hK => ?_) ?_
      · go_simp
        refine hK.out _ _ (hHeld.2.alloc _).both (fun hHeld' => ?_)
        clear hK K
        obtain ⟨b6, n6, hx⟩ := mk_new hHeld.2
        replace r1 := r1.ext hx
        clear hx hHeld
        generalize World.alloc _ (.cells #[.bool false, .slice none 0 0, .slice none 0 0] 47) = v8 at *
        generalize Array.size (World.heap _) = g6 at b6 n6 ⊢
        have hHeld := hHeld'
        clear hHeld'
        try simp only [Act.put, List.setIfInBounds_toArray, List.set_cons_zero, List.set_cons_succ]
        refine wpAnyH_ready (rs := [3, 4]) (by kernel_rfl) (by simp) ?_
        refine AllReadyH.cons (o := ⟨some 10, _, _, _, _, _⟩) rfl (fun K hK => ?_) ?_
        · go_simp
          refine (c_rRatNorm0 _ _ _ _ _ gg.out.empty).mono ?_
          rintro e w3 ⟨_, rfl, r3, _, he⟩
          obtain ⟨A3, cap3, rfl⟩ := r3.slice
          have kp := hHeld.2.call he
          replace r1 := r1.ext he
          replace b6 := b6.ext he
          clear he
          go_wp2_with fail
          refine hK.out _ _ kp.both (fun hHeld => ?_)
          clear hK K kp
          try simp only [Act.put, List.setIfInBounds_toArray, List.set_cons_zero, List.set_cons_succ]
          refine wpAnyH_ready (rs := [4]) (by kernel_rfl) (by simp) ?_
          refine AllReadyH.cons (o := ⟨some 5, _, _, _, _, _⟩) rfl (fun K hK => ?_) ?_
          · go_simp
            refine hK.out _ _ (hHeld.2.alloc _).both (fun hHeld' => ?_)
            clear hK K
            obtain ⟨b5, n5, hx⟩ := mk_new hHeld.2
            replace r1 := r1.ext hx
            replace r3 := r3.ext hx
            have n56 := Nat.ne_of_gt b6.lt
            replace b6 := b6.ext hx
            clear hx hHeld
            generalize World.alloc _ (.cells #[.bool false, .slice none 0 0, .slice none 0 0] 47) = v9 at *
            generalize Array.size (World.heap _) = g5 at b5 n5 n56 ⊢
            have hHeld := hHeld'
            clear hHeld'
            try simp only [Act.put, List.setIfInBounds_toArray, List.set_cons_zero, List.set_cons_succ]
            refine wpAnyH_ready (rs := [6]) (by kernel_rfl) (by simp) (AllReadyH.cons (o := ⟨none, _, _, _, _, _⟩) rfl (fun K hK => ?_) AllReadyH.nil)
            rw [if_pos (by rfl)]
            refine wp_store_whole 47 (.tmp 5) (.tmp 8) rfl g5 47 #[.bool false, .slice none 0 0, .slice none 0 0] #[.bool false, .slice none 0 0, .slice A2 1 cap2] rfl rfl b5 rfl info47 (one3 _ _) ?_
            intro w5 b5' t5
            have kp5 := hHeld.2.two t5 n5
            refine hK.out _ _ kp5.both (fun hHeld5 => ?_)
            clear hK K
            have b6' := t5.blk b6 n56.symm n56.symm
            have r1' := r1.two t5 b5 nz3
            have r3' := r3.two t5 b5 nz3
            try simp only [Act.put]
            refine wpAnyH_ready (rs := [7]) (by kernel_rfl) (by simp) (AllReadyH.cons (o := ⟨none, _, _, _, _, _⟩) rfl (fun K hK => ?_) AllReadyH.nil)
            rw [if_pos (by rfl)]
            refine wp_store_whole 47 (.tmp 6) (.tmp 10) rfl g6 47 #[.bool false, .slice none 0 0, .slice none 0 0] #[.bool false, .slice none 0 0, .slice A3 1 cap3] rfl rfl b6' rfl info47 (one3 _ _) ?_
            intro w6 b6'' t6
            refine hK.out _ _ (kp5.two t6 n6).both (fun hHeld6 => ?_)
            clear hK K
            try simp only [Act.put]
            refine wpAnyH_done (by kernel_rfl) ?_ _
            go_wp2_with fail
            go_meet
            exact ⟨g5, g6, A2, cap2, A3, cap3, rfl, rfl, t6.blk b5' n56 n56, b6'', r1'.two t6 b6' nz3, r3'.two t6 b6' nz3, kp5.two t6 n6⟩
          exact AllReadyH.nil
        refine AllReadyH.cons (o := ⟨some 5, _, _, _, _, _⟩) rfl (fun K hK => ?_) ?_
        · go_simp
          refine hK.out _ _ (hHeld.2.alloc _).both (fun hHeld' => ?_)
          clear hK K
          obtain ⟨b5, n5, hx⟩ := mk_new hHeld.2
          replace r1 := r1.ext hx
          have n56 := Nat.ne_of_gt b6.lt
          replace b6 := b6.ext hx
          clear hx hHeld
          generalize World.alloc _ (.cells #[.bool false, .slice none 0 0, .slice none 0 0] 47) = v10 at *
          generalize Array.size (World.heap _) = g5 at b5 n5 n56 ⊢
          have hHeld := hHeld'
          clear hHeld'
          try simp only [Act.put, List.setIfInBounds_toArray, List.set_cons_zero, List.set_cons_succ]
          refine wpAnyH_ready (rs := [3]) (by kernel_rfl) (by simp) ?_
          refine AllReadyH.cons (o := ⟨some 10, _, _, _, _, _⟩) rfl (fun K hK => ?_) ?_
          · go_simp
            refine (c_rRatNorm0 _ _ _ _ _ gg.out.empty).mono ?_
            rintro e w3 ⟨_, rfl, r3, _, he⟩
            obtain ⟨A3, cap3, rfl⟩ := r3.slice
            have kp := hHeld.2.call he
            replace r1 := r1.ext he
            replace b5 := b5.ext he
            replace b6 := b6.ext he
            clear he
            go_wp2_with fail
            refine hK.out _ _ kp.both (fun hHeld => ?_)
            clear hK K kp
            try simp only [Act.put, List.setIfInBounds_toArray, List.set_cons_zero, List.set_cons_succ]
            refine wpAnyH_ready (rs := [6]) (by kernel_rfl) (by simp) (AllReadyH.cons (o := ⟨none, _, _, _, _, _⟩) rfl (fun K hK => ?_) AllReadyH.nil)
            rw [if_pos (by rfl)]
            refine wp_store_whole 47 (.tmp 5) (.tmp 8) rfl g5 47 #[.bool false, .slice none 0 0, .slice none 0 0] #[.bool false, .slice none 0 0, .slice A2 1 cap2] rfl rfl b5 rfl info47 (one3 _ _) ?_
            intro w5 b5' t5
            have kp5 := hHeld.2.two t5 n5
            refine hK.out _ _ kp5.both (fun hHeld5 => ?_)
            clear hK K
            have b6' := t5.blk b6 n56.symm n56.symm
            have r1' := r1.two t5 b5 nz3
            have r3' := r3.two t5 b5 nz3
            try simp only [Act.put]
            refine wpAnyH_ready (rs := [7]) (by kernel_rfl) (by simp) (AllReadyH.cons (o := ⟨none, _, _, _, _, _⟩) rfl (fun K hK => ?_) AllReadyH.nil)
            rw [if_pos (by rfl)]
            refine wp_store_whole 47 (.tmp 6) (.tmp 10) rfl g6 47 #[.bool false, .slice none 0 0, .slice none 0 0] #[.bool false, .slice none 0 0, .slice A3 1 cap3] rfl rfl b6' rfl info47 (one3 _ _) ?_
            intro w6 b6'' t6
            refine hK.out _ _ (kp5.two t6 n6).both (fun hHeld6 => ?_)
            clear hK K
            try simp only [Act.put]
            refine wpAnyH_done (by kernel_rfl) ?_ _
            go_wp2_with fail
            go_meet
            exact ⟨g5, g6, A2, cap2, A3, cap3, rfl, rfl, t6.blk b5' n56 n56, b6'', r1'.two t6 b6' nz3, r3'.two t6 b6' nz3, kp5.two t6 n6⟩
          exact AllReadyH.nil
        exact AllReadyH.nil
      exact AllReadyH.nil
    refine AllReadyH.cons (o := ⟨some 5, _, _, _, _, _⟩) rfl (fun K hK => ?_) ?_
    · go_simp
      refine hK.out _ _ (hHeld.2.alloc _).both (fun hHeld' => ?_)
      clear hK K
      obtain ⟨b5, n5, hx⟩ := mk_new hHeld.2
      clear hx hHeld
      generalize World.alloc _ (.cells #[.bool false, .slice none 0 0, .slice none 0 0] 47) = v11 at *
      generalize Array.size (World.heap _) = g5 at b5 n5 ⊢
      have hHeld := hHeld'
      clear hHeld'
      try simp only [Act.put, List.setIfInBounds_toArray, List.set_cons_zero, List.set_cons_succ]
      refine wpAnyH_ready (rs := [1, 5]) (by kernel_rfl) (by simp) ?_
      refine AllReadyH.cons (o := ⟨some 8, _, _, _, _, _⟩) rfl (fun K hK => ?_) ?_
      · go_simp
        refine (c_rRatNorm0 _ _ _ _ _ hh.out.empty).mono ?_
        rintro e w1 ⟨_, rfl, r1, _, he⟩
        obtain ⟨A2, cap2, rfl⟩ := r1.slice
        have kp := hHeld.2.call he
        replace b5 := b5.ext he
        clear he
        go_wp2_with fail
        refine hK.out _ _ kp.both (fun hHeld => ?_)
        clear hK K kp
        try simp only [Act.put, List.setIfInBounds_toArray, List.set_cons_zero, List.set_cons_succ]
        refine wpAnyH_ready (rs := [3, 5]) (by kernel_rfl) (by simp) ?_
        refine AllReadyH.cons (o := ⟨some 10, _, _, _, _, _⟩) rfl (fun K hK => ?_) ?_
        · go_simp
          refine (c_rRatNorm0 _ _ _ _ _ gg.out.empty).mono ?_
          rintro e w3 ⟨_, rfl, r3, _, he⟩
          obtain ⟨A3, cap3, rfl⟩ := r3.slice
          have kp := hHeld.2.call he
          replace r1 := r1.ext he
          replace b5 := b5.ext he
          clear he
          go_wp2_with fail
          refine hK.out _ _ kp.both (fun hHeld => ?_)
          clear hK K kp
          try simp only [Act.put, List.setIfInBounds_toArray, List.set_cons_zero, List.set_cons_succ]
          refine wpAnyH_ready (rs := [5]) (by kernel_rfl) (by simp) ?_
          refine AllReadyH.cons (o := ⟨some 6, _, _, _, _, _⟩) rfl (fun K hK => ?_) ?_
          · go_simp
            refine hK.out _ _ (hHeld.2.alloc _).both (fun hHeld' => ?_)
            clear hK K
            obtain ⟨b6, n6, hx⟩ := mk_new hHeld.2
            replace r1 := r1.ext hx
            replace r3 := r3.ext hx
            have n56 := Nat.ne_of_lt b5.lt
            replace b5 := b5.ext hx
            clear hx hHeld
            generalize World.alloc _ (.cells #[.bool false, .slice none 0 0, .slice none 0 0] 47) = v12 at *
            generalize Array.size (World.heap _) = g6 at b6 n6 n56 ⊢
            have hHeld := hHeld'
            clear hHeld'
            try simp only [Act.put, List.setIfInBounds_toArray, List.set_cons_zero, List.set_cons_succ]
            refine wpAnyH_ready (rs := [6]) (by kernel_rfl) (by simp) (AllReadyH.cons (o := ⟨none, _, _, _, _, _⟩) rfl (fun K hK => ?_) AllReadyH.nil)
            rw [if_pos (by rfl)]
            refine wp_store_whole 47 (.tmp 5) (.tmp 8) rfl g5 47 #[.bool false, .slice none 0 0, .slice none 0 0] #[.bool false, .slice none 0 0, .slice A2 1 cap2] rfl rfl b5 rfl info47 (one3 _ _) ?_
            intro w5 b5' t5
            have kp5 := hHeld.2.two t5 n5
            refine hK.out _ _ kp5.both (fun hHeld5 => ?_)
            clear hK K
            have b6' := t5.blk b6 n56.symm n56.symm
            have r1' := r1.two t5 b5 nz3
            have r3' := r3.two t5 b5 nz3
            try simp only [Act.put]
            refine wpAnyH_ready (rs := [7]) (by kernel_rfl) (by simp) (AllReadyH.cons (o := ⟨none, _, _, _, _, _⟩) rfl (fun K hK => ?_) AllReadyH.nil)
            rw [if_pos (by rfl)]
            refine wp_store_whole 47 (.tmp 6) (.tmp 10) rfl g6 47 #[.bool false, .slice none 0 0, .slice none 0 0] #[.bool false, .slice none 0 0, .slice A3 1 cap3] rfl rfl b6' rfl info47 (one3 _ _) ?_
            intro w6 b6'' t6
            refine hK.out _ _ (kp5.two t6 n6).both (fun hHeld6 => ?_)
            clear hK K
            try simp only [Act.put]
            refine wpAnyH_done (by kernel_rfl) ?_ _
            go_wp2_with fail
            go_meet
            exact ⟨g5, g6, A2, cap2, A3, cap3, rfl, rfl, t6.blk b5' n56 n56, b6'', r1'.two t6 b6' nz3, r3'.two t6 b6' nz3, kp5.two t6 n6⟩
          exact AllReadyH.nil
        refine AllReadyH.cons (o := ⟨some 6, _, _, _, _, _⟩) rfl (fun K hK => ?_) ?_
        · go_simp
          refine hK.out _ _ (hHeld.2.alloc _).both (fun hHeld' => ?_)
          clear hK K
          obtain ⟨b6, n6, hx⟩ := mk_new hHeld.2
          replace r1 := r1.ext hx
          have n56 := Nat.ne_of_lt b5.lt
          replace b5 := b5.ext hx
          clear hx hHeld
          generalize World.alloc _ (.cells #[.bool false, .slice none 0 0, .slice none 0 0] 47) = v13 at *
          generalize Array.size (World.heap _) = g6 at b6 n6 n56 ⊢
          have hHeld := hHeld'
          clear hHeld'
          try simp only [Act.put, List.setIfInBounds_toArray, List.set_cons_zero, List.set_cons_succ]
          refine wpAnyH_ready (rs := [3]) (by kernel_rfl) (by simp) ?_
          refine AllReadyH.cons (o := ⟨some 10, _, _, _, _, _⟩) rfl (fun K hK => ?_) ?_
          · go_simp
            refine (c_rRatNorm0 _ _ _ _ _ gg.out.empty).mono ?_
            rintro e w3 ⟨_, rfl, r3, _, he⟩
            obtain ⟨A3, cap3, rfl⟩ := r3.slice
            have kp := hHeld.2.call he
            replace r1 := r1.ext he
            replace b5 := b5.ext he
            replace b6 := b6.ext he
            clear he
            go_wp2_with fail
            refine hK.out _ _ kp.both (fun hHeld => ?_)
            clear hK K kp
            try simp only [Act.put, List.setIfInBounds_toArray, List.set_cons_zero, List.set_cons_succ]
            refine wpAnyH_ready (rs := [6]) (by kernel_rfl) (by simp) (AllReadyH.cons (o := ⟨none, _, _, _, _, _⟩) rfl (fun K hK => ?_) AllReadyH.nil)
            rw [if_pos (by rfl)]
            refine wp_store_whole 47 (.tmp 5) (.tmp 8) rfl g5 47 #[.bool false, .slice none 0 0, .slice none 0 0] #[.bool false, .slice none 0 0, .slice A2 1 cap2] rfl rfl b5 rfl info47 (one3 _ _) ?_
            intro w5 b5' t5
            have kp5 := hHeld.2.two t5 n5
            refine hK.out _ _ kp5.both (fun hHeld5 => ?_)
            clear hK K
            have b6' := t5.blk b6 n56.symm n56.symm
            have r1' := r1.two t5 b5 nz3
            have r3' := r3.two t5 b5 nz3
            try simp only [Act.put]
            refine wpAnyH_ready (rs := [7]) (by kernel_rfl) (by simp) (AllReadyH.cons (o := ⟨none, _, _, _, _, _⟩) rfl (fun K hK => ?_) AllReadyH.nil)
            rw [if_pos (by rfl)]
            refine wp_store_whole 47 (.tmp 6) (.tmp 10) rfl g6 47 #[.bool false, .slice none 0 0, .slice none 0 0] #[.bool false, .slice none 0 0, .slice A3 1 cap3] rfl rfl b6' rfl info47 (one3 _ _) ?_
            intro w6 b6'' t6
            refine hK.out _ _ (kp5.two t6 n6).both (fun hHeld6 => ?_)
            clear hK K
            try simp only [Act.put]
            refine wpAnyH_done (by kernel_rfl) ?_ _
            go_wp2_with fail
            go_meet
            exact ⟨g5, g6, A2, cap2, A3, cap3, rfl, rfl, t6.blk b5' n56 n56, b6'', r1'.two t6 b6' nz3, r3'.two t6 b6' nz3, kp5.two t6 n6⟩
          exact AllReadyH.nil
        exact AllReadyH.nil
      refine AllReadyH.cons (o := ⟨some 6, _, _, _, _, _⟩) rfl (fun K hK => ?_) ?_
      · go_simp
        refine hK.out _ _ (hHeld.2.alloc _).both (fun hHeld' => ?_)
        clear hK K
        obtain ⟨b6, n6, hx⟩ := mk_new hHeld.2
        have n56 := Nat.ne_of_lt b5.lt
        replace b5 := b5.ext hx
        clear hx hHeld
        generalize World.alloc _ (.cells #[.bool false, .slice none 0 0, .slice none 0 0] 47) = v14 at *
        generalize Array.size (World.heap _) = g6 at b6 n6 n56 ⊢
        have hHeld := hHeld'
        clear hHeld'
        try simp only [Act.put, List.setIfInBounds_toArray, List.set_cons_zero, List.set_cons_succ]
        refine wpAnyH_ready (rs := [1]) (by kernel_rfl) (by simp) ?_
        refine AllReadyH.cons (o := ⟨some 8, _, _, _, _, _⟩) rfl (fun K hK => ?_) ?_
        · go_simp
          refine (c_rRatNorm0 _ _ _ _ _ hh.out.empty).mono ?_
          rintro e w1 ⟨_, rfl, r1, _, he⟩
          obtain ⟨A2, cap2, rfl⟩ := r1.slice
          have kp := hHeld.2.call he
          replace b5 := b5.ext he
          replace b6 := b6.ext he
          clear he
          go_wp2_with fail
          refine hK.out _ _ kp.both (fun hHeld => ?_)
          clear hK K kp
          try simp only [Act.put, List.setIfInBounds_toArray, List.set_cons_zero, List.set_cons_succ]
          refine wpAnyH_ready (rs := [3]) (by kernel_rfl) (by simp) ?_
          refine AllReadyH.cons (o := ⟨some 10, _, _, _, _, _⟩) rfl (fun K hK => ?_) ?_
          · go_simp
            refine (c_rRatNorm0 _ _ _ _ _ gg.out.empty).mono ?_
            rintro e w3 ⟨_, rfl, r3, _, he⟩
            obtain ⟨A3, cap3, rfl⟩ := r3.slice
            have kp := hHeld.2.call he
            replace r1 := r1.ext he
            replace b5 := b5.ext he
            replace b6 := b6.ext he
            clear he
            go_wp2_with fail
            refine hK.out _ _ kp.both (fun hHeld => ?_)
            clear hK K kp
            try simp only [Act.put, List.setIfInBounds_toArray, List.set_cons_zero, List.set_cons_succ]
            refine wpAnyH_ready (rs := [6]) (by kernel_rfl) (by simp) (AllReadyH.cons (o := ⟨none, _, _, _, _, _⟩) rfl (fun K hK => ?_) AllReadyH.nil)
            rw [if_pos (by rfl)]
            refine wp_store_whole 47 (.tmp 5) (.tmp 8) rfl g5 47 #[.bool false, .slice none 0 0, .slice none 0 0] #[.bool false, .slice none 0 0, .slice A2 1 cap2] rfl rfl b5 rfl info47 (one3 _ _) ?_
            intro w5 b5' t5
            have kp5 := hHeld.2.two t5 n5
            refine hK.out _ _ kp5.both (fun hHeld5 => ?_)
            clear hK K
            have b6' := t5.blk b6 n56.symm n56.symm
            have r1' := r1.two t5 b5 nz3
            have r3' := r3.two t5 b5 nz3
            try simp only [Act.put]
            refine wpAnyH_ready (rs := [7]) (by kernel_rfl) (by simp) (AllReadyH.cons (o := ⟨none, _, _, _, _, _⟩) rfl (fun K hK => ?_) AllReadyH.nil)
            rw [if_pos (by rfl)]
            refine wp_store_whole 47 (.tmp 6) (.tmp 10) rfl g6 47 #[.bool false, .slice none 0 0, .slice none 0 0] #[.bool false, .slice none 0 0, .slice A3 1 cap3] rfl rfl b6' rfl info47 (one3 _ _) ?_
            intro w6 b6'' t6
            refine hK.out _ _ (kp5.two t6 n6).both (fun hHeld6 => ?_)
            clear hK K
            try simp only [Act.put]
            refine wpAnyH_done (by kernel_rfl) ?_ _
            go_wp2_with fail
            go_meet
            exact ⟨g5, g6, A2, cap2, A3, cap3, rfl, rfl, t6.blk b5' n56 n56, b6'', r1'.two t6 b6' nz3, r3'.two t6 b6' nz3, kp5.two t6 n6⟩
          exact AllReadyH.nil
        exact AllReadyH.nil
      exact AllReadyH.nil
    refine AllReadyH.cons (o := ⟨some 6, _, _, _, _, _⟩) rfl (fun K hK => ?_) ?_
    · go_simp
      refine hK.out _ _ (hHeld.2.alloc _).both (fun hHeld' => ?_)
      clear hK K
      obtain ⟨b6, n6, hx⟩ := mk_new hHeld.2
      clear hx hHeld
      generalize World.alloc _ (.cells #[.bool false, .slice none 0 0, .slice none 0 0] 47) = v15 at *
      generalize Array.size (World.heap _) = g6 at b6 n6 ⊢
      have hHeld := hHeld'
      clear hHeld'
      try simp only [Act.put, List.setIfInBounds_toArray, List.set_cons_zero, List.set_cons_succ]
      refine wpAnyH_ready (rs := [1, 4]) (by kernel_rfl) (by simp) ?_
      refine AllReadyH.cons (o := ⟨some 8, _, _, _, _, _⟩) rfl (fun K hK => ?_) ?_
      · go_simp
        refine (c_rRatNorm0 _ _ _ _ _ hh.out.empty).mono ?_
        rintro e w1 ⟨_, rfl, r1, _, he⟩
        obtain ⟨A2, cap2, rfl⟩ := r1.slice
        have kp := hHeld.2.call he
        replace b6 := b6.ext he
        clear he
        go_wp2_with fail
        refine hK.out _ _ kp.both (fun hHeld => ?_)
        clear hK K kp
        try simp only [Act.put, List.setIfInBounds_toArray, List.set_cons_zero, List.set_cons_succ]
        refine wpAnyH_ready (rs := [3, 4]) (by kernel_rfl) (by simp) ?_
        refine AllReadyH.cons (o := ⟨some 10, _, _, _, _, _⟩) rfl (fun K hK => ?_) ?_
        · go_simp
          refine (c_rRatNorm0 _ _ _ _ _ gg.out.empty).mono ?_
          rintro e w3 ⟨_, rfl, r3, _, he⟩
          obtain ⟨A3, cap3, rfl⟩ := r3.slice
          have kp := hHeld.2.call he
          replace r1 := r1.ext he
          replace b6 := b6.ext he
          clear he
          go_wp2_with fail
          refine hK.out _ _ kp.both (fun hHeld => ?_)
          clear hK K kp
          try simp only [Act.put, List.setIfInBounds_toArray, List.set_cons_zero, List.set_cons_succ]
          refine wpAnyH_ready (rs := [4]) (by kernel_rfl) (by simp) ?_
          refine AllReadyH.cons (o := ⟨some 5, _, _, _, _, _⟩) rfl (fun K hK => ?_) ?_
          · go_simp
            refine hK.out _ _ (hHeld.2.alloc _).both (fun hHeld' => ?_)
            clear hK K
            obtain ⟨b5, n5, hx⟩ := mk_new hHeld.2
            replace r1 := r1.ext hx
            replace r3 := r3.ext hx
            have n56 := Nat.ne_of_gt b6.lt
            replace b6 := b6.ext hx
            clear hx hHeld
            generalize World.alloc _ (.cells #[.bool false, .slice none 0 0, .slice none 0 0] 47) = v16 at *
            generalize Array.size (World.heap _) = g5 at b5 n5 n56 ⊢
            have hHeld := hHeld'
            clear hHeld'
            try simp only [Act.put, List.setIfInBounds_toArray, List.set_cons_zero, List.set_cons_succ]
            refine wpAnyH_ready (rs := [6]) (by kernel_rfl) (by simp) (AllReadyH.cons (o := ⟨none, _, _, _, _, _⟩) rfl (fun K hK => ?_) AllReadyH.nil)
            rw [if_pos (by rfl)]
            refine wp_store_whole 47 (.tmp 5) (.tmp 8) rfl g5 47 #[.bool false, .slice none 0 0, .slice none 0 0] #[.bool false, .slice none 0 0, .slice A2 1 cap2] rfl rfl b5 rfl info47 (one3 _ _) ?_
            intro w5 b5' t5
            have kp5 := hHeld.2.two t5 n5
            refine hK.out _ _ kp5.both (fun hHeld5 => ?_)
            clear hK K
            have b6' := t5.blk b6 n56.symm n56.symm
            have r1' := r1.two t5 b5 nz3
            have r3' := r3.two t5 b5 nz3
            try simp only [Act.put]
            refine wpAnyH_ready (rs := [7]) (by kernel_rfl) (by simp) (AllReadyH.cons (o := ⟨none, _, _, _, _, _⟩) rfl (fun K hK => ?_) AllReadyH.nil)
            rw [if_pos (by rfl)]
            refine wp_store_whole 47 (.tmp 6) (.tmp 10) rfl g6 47 #[.bool false, .slice none 0 0, .slice none 0 0] #[.bool false, .slice none 0 0, .slice A3 1 cap3] rfl rfl b6' rfl info47 (one3 _ _) ?_
            intro w6 b6'' t6
            refine hK.out _ _ (kp5.two t6 n6).both (fun hHeld6 => ?_)
            clear hK K
            try simp only [Act.put]
            refine wpAnyH_done (by kernel_rfl) ?_ _
            go_wp2_with fail
            go_meet
            exact ⟨g5, g6, A2, cap2, A3, cap3, rfl, rfl, t6.blk b5' n56 n56, b6'', r1'.two t6 b6' nz3, r3'.two t6 b6' nz3, kp5.two t6 n6⟩
          exact AllReadyH.nil
        refine AllReadyH.cons (o := ⟨some 5, _, _, _, _, _⟩) rfl (fun K hK => ?_) ?_
        · go_simp
          refine hK.out _ _ (hHeld.2.alloc _).both (fun hHeld' => ?_)
          clear hK K
          obtain ⟨b5, n5, hx⟩ := mk_new hHeld.2
          replace r1 := r1.ext hx
          have n56 := Nat.ne_of_gt b6.lt
          replace b6 := b6.ext hx
          clear hx hHeld
          generalize World.alloc _ (.cells #[.bool false, .slice none 0 0, .slice none 0 0] 47) = v17 at *
          generalize Array.size (World.heap _) = g5 at b5 n5 n56 ⊢
          have hHeld := hHeld'
          clear hHeld'
          try simp only [Act.put, List.setIfInBounds_toArray, List.set_cons_zero, List.set_cons_succ]
          refine wpAnyH_ready (rs := [3]) (by kernel_rfl) (by simp) ?_
          refine AllReadyH.cons (o := ⟨some 10, _, _, _, _, _⟩) rfl (fun K hK => ?_) ?_
          · go_simp
            refine (c_rRatNorm0 _ _ _ _ _ gg.out.empty).mono ?_
            rintro e w3 ⟨_, rfl, r3, _, he⟩
            obtain ⟨A3, cap3, rfl⟩ := r3.slice
            have kp := hHeld.2.call he
            replace r1 := r1.ext he
            replace b5 := b5.ext he
            replace b6 := b6.ext he
            clear he
            go_wp2_with fail
            refine hK.out _ _ kp.both (fun hHeld => ?_)
            clear hK K kp
            try simp only [Act.put, List.setIfInBounds_toArray, List.set_cons_zero, List.set_cons_succ]
            refine wpAnyH_ready (rs := [6]) (by kernel_rfl) (by simp) (AllReadyH.cons (o := ⟨none, _, _, _, _, _⟩) rfl (fun K hK => ?_) AllReadyH.nil)
            rw [if_pos (by rfl)]
            refine wp_store_whole 47 (.tmp 5) (.tmp 8) rfl g5 47 #[.bool false, .slice none 0 0, .slice none 0 0] #[.bool false, .slice none 0 0, .slice A2 1 cap2] rfl rfl b5 rfl info47 (one3 _ _) ?_
            intro w5 b5' t5
            have kp5 := hHeld.2.two t5 n5
            refine hK.out _ _ kp5.both (fun hHeld5 => ?_)
            clear hK K
            have b6' := t5.blk b6 n56.symm n56.symm
            have r1' := r1.two t5 b5 nz3
            have r3' := r3.two t5 b5 nz3
            try simp only [Act.put]
            refine wpAnyH_ready (rs := [7]) (by kernel_rfl) (by simp) (AllReadyH.cons (o := ⟨none, _, _, _, _, _⟩) rfl (fun K hK => ?_) AllReadyH.nil)
            rw [if_pos (by rfl)]
            refine wp_store_whole 47 (.tmp 6) (.tmp 10) rfl g6 47 #[.bool false, .slice none 0 0, .slice none 0 0] #[.bool false, .slice none 0 0, .slice A3 1 cap3] rfl rfl b6' rfl info47 (one3 _ _) ?_
            intro w6 b6'' t6
            refine hK.out _ _ (kp5.two t6 n6).both (fun hHeld6 => ?_)
            clear hK K
            try simp only [Act.put]
            refine wpAnyH_done (by kernel_rfl) ?_ _
            go_wp2_with fail
            go_meet
            exact ⟨g5, g6, A2, cap2, A3, cap3, rfl, rfl, t6.blk b5' n56 n56, b6'', r1'.two t6 b6' nz3, r3'.two t6 b6' nz3, kp5.two t6 n6⟩
          exact AllReadyH.nil
        exact AllReadyH.nil
      refine AllReadyH.cons (o := ⟨some 5, _, _, _, _, _⟩) rfl (fun K hK => ?_) ?_
      · go_simp
        refine hK.out _ _ (hHeld.2.alloc _).both (fun hHeld' => ?_)
        clear hK K
        obtain ⟨b5, n5, hx⟩ := mk_new hHeld.2
        have n56 := Nat.ne_of_gt b6.lt
        replace b6 := b6.ext hx
        clear hx hHeld
        generalize World.alloc _ (.cells #[.bool false, .slice none 0 0, .slice none 0 0] 47) = v18 at *
        generalize Array.size (World.heap _) = g5 at b5 n5 n56 ⊢
        have hHeld := hHeld'
        clear hHeld'
        try simp only [Act.put, List.setIfInBounds_toArray, List.set_cons_zero, List.set_cons_succ]
        refine wpAnyH_ready (rs := [1]) (by kernel_rfl) (by simp) ?_
        refine AllReadyH.cons (o := ⟨some 8, _, _, _, _, _⟩) rfl (fun K hK => ?_) ?_
        · go_simp
          refine (c_rRatNorm0 _ _ _ _ _ hh.out.empty).mono ?_
          rintro e w1 ⟨_, rfl, r1, _, he⟩
          obtain ⟨A2, cap2, rfl⟩ := r1.slice
          have kp := hHeld.2.call he
          replace b5 := b5.ext he
          replace b6 := b6.ext he
          clear he
          go_wp2_with fail
          refine hK.out _ _ kp.both (fun hHeld => ?_)
          clear hK K kp
          try simp only [Act.put, List.setIfInBounds_toArray, List.set_cons_zero, List.set_cons_succ]
          refine wpAnyH_ready (rs := [3]) (by kernel_rfl) (by simp) ?_
          refine AllReadyH.cons (o := ⟨some 10, _, _, _, _, _⟩) rfl (fun K hK => ?_) ?_
          · go_simp
            refine (c_rRatNorm0 _ _ _ _ _ gg.out.empty).mono ?_
            rintro e w3 ⟨_, rfl, r3, _, he⟩
            obtain ⟨A3, cap3, rfl⟩ := r3.slice
            have kp := hHeld.2.call he
            replace r1 := r1.ext he
            replace b5 := b5.ext he
            replace b6 := b6.ext he
            clear he
            go_wp2_with fail
            refine hK.out _ _ kp.both (fun hHeld => ?_)
            clear hK K kp
            try simp only [Act.put, List.setIfInBounds_toArray, List.set_cons_zero, List.set_cons_succ]
            refine wpAnyH_ready (rs := [6]) (by kernel_rfl) (by simp) (AllReadyH.cons (o := ⟨none, _, _, _, _, _⟩) rfl (fun K hK => ?_) AllReadyH.nil)
            rw [if_pos (by rfl)]
            refine wp_store_whole 47 (.tmp 5) (.tmp 8) rfl g5 47 #[.bool false, .slice none 0 0, .slice none 0 0] #[.bool false, .slice none 0 0, .slice A2 1 cap2] rfl rfl b5 rfl info47 (one3 _ _) ?_
            intro w5 b5' t5
            have kp5 := hHeld.2.two t5 n5
            refine hK.out _ _ kp5.both (fun hHeld5 => ?_)
            clear hK K
            have b6' := t5.blk b6 n56.symm n56.symm
            have r1' := r1.two t5 b5 nz3
            have r3' := r3.two t5 b5 nz3
            try simp only [Act.put]
            refine wpAnyH_ready (rs := [7]) (by kernel_rfl) (by simp) (AllReadyH.cons (o := ⟨none, _, _, _, _, _⟩) rfl (fun K hK => ?_) AllReadyH.nil)
            rw [if_pos (by rfl)]
            refine wp_store_whole 47 (.tmp 6) (.tmp 10) rfl g6 47 #[.bool false, .slice none 0 0, .slice none 0 0] #[.bool false, .slice none 0 0, .slice A3 1 cap3] rfl rfl b6' rfl info47 (one3 _ _) ?_
            intro w6 b6'' t6
            refine hK.out _ _ (kp5.two t6 n6).both (fun hHeld6 => ?_)
            clear hK K
            try simp only [Act.put]
            refine wpAnyH_done (by kernel_rfl) ?_ _
            go_wp2_with fail
            go_meet
            exact ⟨g5, g6, A2, cap2, A3, cap3, rfl, rfl, t6.blk b5' n56 n56, b6'', r1'.two t6 b6' nz3, r3'.two t6 b6' nz3, kp5.two t6 n6⟩
          exact AllReadyH.nil
        exact AllReadyH.nil
      exact AllReadyH.nil
    exact AllReadyH.nil
  case rest =>
    obtain ⟨g5, g6, E, x, F, y, rfl, rfl, d5, d6, r1, r3, hk⟩ := hcut
    obtain ⟨q0, q1, q2, _, _, _, q3⟩ := d5.parts3
    obtain ⟨q4, q5, q6, _, _, _, q7⟩ := d6.parts3
    have hY := Lib.hid (hk.ext hX (by omega))
    replace r1 := Lib.hid r1
    replace r3 := Lib.hid r3
    have hN : wc.heap.size ≤ wc.heap.size := Nat.le_refl _
    clear hk d5 d6 p0 p1 p2 p3 p4 p5 b0 b1 l0 l1
    have tok1 : True := trivial
    go_wp2_with fail
    go_region_held3 (fun w' => (∀ b o, b < wc.heap.size → w'.cell? ⟨b, o, none⟩ = wc.cell? ⟨b, o, none⟩) ∧ Kp wc.heap.size wc w')
      (first
        | exact (Kp.start hN).drew.both
        | (go_split_ands; exact ((by assumption : Kp _ _ _).call he).both))
      (first
        | (go_at_call 86; have _t := tok1; go_split_ands; refine (c_rIntMul01 _ (.slice F 1 y) _ (RdN.nil _) (r3.out.ext ((by assumption : Kp _ _ _).ext (Ext.refl _) (Nat.le_refl _)))).mono ?_; rintro e w1 ⟨_, rfl, ⟨u2, rfl, h1⟩, he⟩; replace h1 := Lib.hid h1; obtain ⟨A2, cap2, rfl⟩ := h1.out.slice; clear tok1)
        | (go_at_call 86; go_split_ands; refine (c_rIntMul01 _ (.slice E 1 x) _ (RdN.nil _) (r1.out.ext ((by assumption : Kp _ _ _).ext (Ext.refl _) (Nat.le_refl _)))).mono ?_; rintro e w2 ⟨_, rfl, ⟨u3, rfl, h2⟩, he⟩; replace h2 := Lib.hid h2; obtain ⟨A3, cap3, rfl⟩ := h2.out.slice)
        | (go_at_call 85; refine (c_rIntCmp0 _ _ _ h1.out.empty h2.out.empty).mono ?_; rintro e w3 ⟨rfl, he⟩))
    have hfin := Lib.hid ((by assumption : _ ∧ Kp wc.heap.size wc w3).2.ext (Ext.refl _) (Nat.le_refl _))
    go_wp2
    go_ret
    exact ⟨rfl, hY.out.trans hfin.out⟩
end Go.Proofs.Ythfcllefmeoicaa
