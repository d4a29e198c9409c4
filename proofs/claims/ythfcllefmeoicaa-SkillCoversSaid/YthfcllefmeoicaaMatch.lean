/- Contract of skill.Match. -/
import Derived.Test.YthfcllefmeoicaaLarg
import Derived.IntWalk
namespace Go.Proofs.Ythfcllefmeoicaa
open Go.RowKit
attribute [local go_sem ↓] Go.wp_at_zero Go.wp_at_succ

/-- a whole value stored into a block that is known -/
theorem wpList_store_whole {P : Program} {ops : Array Oper} {rest : List Oper} {op : Oper} {a : Act} {w : World} {Q : Exit → Act → World → Prop} (hgd : op.guard = none) (ty : TypeId) (x y : Operand) (ho : op.op = .store ty x y)
    (g : Nat) (t : TypeId) (cs0 cs : Array Value) (hx : a.eval x = .pointer (some ⟨g, 0, none⟩)) (hy : a.eval y = .agg cs) (hb : Blk w g t cs0) (hs : cs0.size = cs.size)
    (hi : (P.info? ty).map (·.size) = some cs.size) (h1 : cs.all (·.oneCell') = true)
    (h : ∀ w', Blk w' g t cs → Two g g w w' → wpList P ops Q rest (a.put op.dst undef) w') : wpList P ops Q (op :: rest) a w :=
  wpList_store_mid hgd ty x y ho g 0 cs hx hy (there_blk hb _ (by omega)) hi h1
    (h _ (by have := setCells_all hb cs.toList (by simpa using hs); simpa using this) (setCells_two g _ 0 w))

/-- the array of the result while it is laid -/
def resA (n : Nat) (r : List Int) : Array Value := ((List.range n).map fun i => Value.int .i64 (r.getD i 0)).toArray
theorem resA_size (n : Nat) (r : List Int) : (resA n r).size = n := by simp [resA]
theorem resA_get (n : Nat) (r : List Int) (k : Nat) (h : k < n) : (resA n r)[k]? = some (.int .i64 (r.getD k 0)) := by simp [resA, h]
theorem resA_set (n : Nat) (r : List Int) (x : Int) : (resA n r).setIfInBounds r.length (.int .i64 x) = resA n (r ++ [x]) := by
  apply Array.ext
  · simp [resA_size]
  · intro i h1 h2
    by_cases hk : r.length = i
    · subst hk; simp [resA]
    · simp only [resA, List.setIfInBounds_toArray, List.getElem_toArray]
      rw [List.getElem_set_ne hk]
      simp only [List.getElem_map, List.getElem_range, List.getD_eq_getElem?_getD]
      rcases Nat.lt_or_ge i r.length with h | h
      · rw [List.getElem?_append_left h]
      · rw [List.getElem?_eq_none h, List.getElem?_eq_none (by simp; omega)]
theorem resA_over (n : Nat) (r : List Int) (x y : Int) : (resA n (r ++ [x])).setIfInBounds r.length (.int .i64 y) = resA n (r ++ [y]) := by
  rw [← resA_set n r x, ← resA_set n r y]
  apply Array.ext
  · simp
  · intro i h1 h2
    by_cases hk : r.length = i
    · subst hk; simp
    · simp
theorem resA_full {w : World} {g : Nat} {t : TypeId} {r : List Int} (h : Blk w g t (resA r.length r)) (hm : r.length ≤ maxLen) : RdI w (.slice (some ⟨g, 0, none⟩) r.length r.length) r := by
  refine ⟨_, _, rfl, Nat.le_refl _, hm, fun j hj => ⟨g, 0, rfl, ?_⟩⟩
  rw [Nat.zero_add, h.cell, resA_get _ _ _ hj, List.getD_eq_getElem?_getD, List.getElem?_eq_getElem hj]; rfl

theorem made_res (n : Nat) : madeCells #[.int .i64 0] (n * 1) = resA n [] := by
  apply Array.ext
  · simp [size_madeCells, resA_size]
  · intro i h1 h2
    simp [madeCells, resA, Nat.mod_one]
theorem make_res (n : Nat) (hn : n ≤ 1000000) (w : World) : (Instr.makeSlice 26 (.int .i64 n) (.int .i64 n)).run Try.prog w = .ok (.slice (some ⟨w.heap.size, 0, none⟩) n n) (w.alloc (.cells (resA n []) 3)) := by
  obtain ⟨i, hi, hz, hs, hb⟩ := info_parts info3
  have hr := run_make (P := Try.prog) w 26 3 i _ Try.underlying26 hi hz .i64 .i64 n n (by omega) (by omega) (by rw [hb]; omega) (by omega)
  rw [hr, hs]
  simp only [Int.toNat_natCast, Value.cells, made_res]

theorem RdC.cut {w : World} {A : Option Addr} {n cap : Nat} {cs : List (Nat → Bool)} (h : RdC w (.slice A n cap) cs) (k : Nat) (hk : k ≤ n) :
    RdC w (.slice (if cap = k then A else A.map (·.add (k * 12))) (n - k) (cap - k)) (cs.drop k) := by
  obtain ⟨A', cap', he, h1, h2, h3⟩ := h
  injection he with e1 e2 e3
  subst e1 e2 e3
  refine ⟨_, _, by rw [List.length_drop], by rw [List.length_drop]; omega, by omega, fun j hj => ?_⟩
  rw [List.length_drop] at hj
  obtain ⟨b, o, rfl, hr⟩ := h3 (k + j) (by omega)
  rw [if_neg (by omega)]
  refine ⟨b, o + k * 12, by simp [addr_add0], ?_⟩
  have hc : (cs.drop k)[j] = cs[k + j] := by simp
  rw [hc, show o + k * 12 + j * 12 = o + (k + j) * 12 by omega]
  exact hr

theorem Kp.rng {N : Nat} {W w' : World} {g o : Nat} {l : List Value} (h : Kp N W w') (hr : W.rangeAt g o l) (hg : g < N) : w'.rangeAt g o l ∧ Kp N W w' :=
  ⟨fun i v hv => by rw [h.cells _ _ hg]; exact hr i v hv, h⟩

set_option maxRecDepth 100000 in
set_option maxHeartbeats 4000000 in
theorem c_match (v u : Value) (ws : List Wk) (needs : List Int) (w : World) (h : RdW w v ws) (g : RdI w u needs) (h0 : askE ws needs = 0) :
    Calls Try.prog 17 #[v, u] w fun e w' => ∃ r, e = .returned (.tuple #[r, .int .i64 0]) ∧ RdI w' r (matM (setsW ws needs) needs.length).2.2 ∧ Fresh w.heap.size r ∧ Ext w w' := by
  obtain ⟨_, h12, h16, _⟩ := askE_ok h0
  have hh := Lib.hid h
  have gg := Lib.hid g
  obtain ⟨B, cap', rfl, hcap', hmax', hd⟩ := g
  unfold maxLen at hmax'
  clear hd h
  have hE : (askE ws needs != 0) = false := by simp [h0]
  have hmk := make_res needs.length (by omega)
  have hlen := Lib.hid (show (setsW ws needs).length = needs.length by simp [setsW])
  generalize hcs : setsW ws needs = cs at hlen ⊢
  have HCS := Lib.hid hcs
  have H0 := Lib.hid h0
  clear hcs h0
  go_enter Try.func17, Try.ntmps17
  go_wp2_with fail
  refine (c_checkNeeds _ _ ws needs _ hh.out gg.out).mono ?_
  rintro e wa ⟨rfl, hea⟩
  have hea := Lib.hid hea
  go_wp2_with fail
  refine (c_able _ _ ws needs _ (hh.out.ext hea.out) (gg.out.ext hea.out) h12 h16).mono ?_
  rintro e w1 ⟨vs, rfl, hC, hfC, he1⟩
  rw [HCS.out] at hC
  have HC := Lib.hid hC
  obtain ⟨A, cap, rfl, hcap, hmax, hrows⟩ := hC
  have hrows := Lib.hid hrows
  unfold maxLen at hmax
  rw [hlen.out] at HC hcap
  have HX1 := Lib.hid (hea.out.trans he1)
  clear he1 hfC
  rw [hlen.out]
  go_wp2_with (first | ((with_reducible (show wpList _ _ _ (Oper.mk (some 26) (.load 58 (.tmp 8)) _ _ _ _ :: _) _ _)); refine wpList_load_row rfl 58 (.tmp 8) rfl w1.heap.size rfl 58 (crewA fun _ => false) (0, 0) _ (Blk.new w1 58 (crewA fun _ => false)) Try.underlying58 rfl (by rw [crewA_size]; exact info58) ?_))
  refine (c_largest _ cs (fun _ => false) _ (HC.out.ext ((Ext.refl _).alloc _)) (by rw [hlen.out]; omega)).mono ?_
  rintro e w2 ⟨rfl, he2⟩
  have HB2 := Lib.hid ((Blk.new w1 58 (crewA fun _ => false)).ext he2)
  have HE2 := Lib.hid (((Ext.refl w1).alloc (.cells (crewA fun _ => false) 58)).trans he2)
  have hg12 : w1.heap.size < w2.heap.size := HB2.out.lt
  clear he2
  go_wp2_with fail
  clear hmk
  go_loopw [9, 33] (fun c i wr => ∃ k : Nat, k ≤ needs.length ∧ i = .int .i64 k ∧ c = .int .i64 (matM cs k).2.1 ∧ Blk wr w1.heap.size 58 (crewA (matM cs k).1) ∧ Blk wr w2.heap.size 3 (resA needs.length (matM cs k).2.2) ∧ Ext w1 wr) (fun _ i _ => needs.length - (intOf i).toNat)
  case atStart => exact ⟨0, by omega, rfl, rfl, HB2.out.alloc _, Blk.new _ _ _, HE2.out.alloc _⟩
  case round =>
    obtain ⟨k, hk, rfl, rfl, hBb, hBr, hext⟩ := hrel
    have HBb := Lib.hid hBb
    have HBr := Lib.hid hBr
    have HX := Lib.hid hext
    have hml := matM_left cs k
    rw [hlen.out] at hml
    obtain ⟨hml1, hml2⟩ := hml
    have hrl := Lib.hid (matM_len cs k)
    by_cases hlt : k < needs.length
    · obtain ⟨b, o, rfl, hrow⟩ := hrows.out k (by rw [hlen.out]; exact hlt)
      obtain ⟨ck, hck⟩ : ∃ ck : Nat → Bool, ∀ i, csAt cs k i = ck i := ⟨_, fun i => csAt_eq cs k i (by rw [hlen.out]; exact hlt)⟩
      have hrow : w1.rangeAt b (o + k * 12) (crewL ck) := by
        have : crewL ck = crewL (cs[k]'(by rw [hlen.out]; exact hlt)) := by
          congr 1; funext i; rw [← hck, csAt_eq cs k i (by rw [hlen.out]; exact hlt)]
        rw [this]; exact hrow
      have HCK := Lib.hid hck
      clear hck
      have hrow' : wr.rangeAt b (o + k * 12) (crewL ck) := fun i v hv => hext.cell (hrow i v hv)
      have hrow' := Lib.hid hrow'
      have hsz : w2.heap.size < wr.heap.size := hBr.lt
      clear hBb hBr hext hrow
      go_wp2_with (first
        | ((with_reducible (show wpList _ _ _ (Oper.mk (some 37) (.load 58 (.tmp 36)) _ _ _ _ :: _) _ _)); refine wpList_load_mid rfl 58 (.tmp 36) rfl b (o + k * 12) rfl (crewL ck) _ hrow'.out Try.underlying58 rfl (by rw [crewL_length]; exact info58) ?_)
        | ((with_reducible (show wpList _ _ _ (Oper.mk (none) (.store 58 (.tmp 12) (.tmp 37)) _ _ _ _ :: _) _ _)); refine wpList_store_whole rfl 58 (.tmp 12) (.tmp 37) rfl wr.heap.size 58 #[.bool false, .bool false, .bool false, .bool false, .bool false, .bool false, .bool false, .bool false, .bool false, .bool false, .bool false, .bool false] (crewA ck) rfl rfl (Blk.new _ _ _) (by rw [crewA_size]; rfl) (by rw [crewA_size]; exact info58) (crewA_one _) ?_; intro W1 hS1 hT1; have hr1 := hT1.blk (HBr.out.alloc _) (by omega) (by omega); have hb1 := Lib.hid (hT1.blk (HBb.out.alloc _) (by omega) (by omega)); have hX1 := Lib.hid ((HX.out.alloc (.cells #[.bool false, .bool false, .bool false, .bool false, .bool false, .bool false, .bool false, .bool false, .bool false, .bool false, .bool false, .bool false] 58)).trans_below (hT1.below (B := w1.heap.size) (by omega) (by omega))); have hz1 := hT1.size; simp only [World.size_alloc] at hz1; have hz1 : wr.heap.size < W1.heap.size := (by omega); have hc1 := hr1.cell k; rw [resA_get _ _ _ hlt] at hc1; have hf1 := hr1.frozen k; have hr1 := Lib.hid hr1; have hS1 := Lib.hid hS1; clear hT1)
        | ((with_reducible (show wpList _ _ _ (Oper.mk (some 41) (.load 58 (.tmp 12)) _ _ _ _ :: _) _ _)); refine wpList_load_row rfl 58 (.tmp 12) rfl wr.heap.size rfl 58 (crewA ck) (0, 0) _ (hS1.out.far (p := ⟨w2.heap.size, k, none⟩) (by simp; omega) (.int .i64 (-1))) Try.underlying58 rfl (by rw [crewA_size]; exact info58) ?_))
      have hr2 : Blk (W1.setCell ⟨w2.heap.size, k, none⟩ (.int .i64 (-1))) w2.heap.size 3 (resA needs.length ((matM cs k).2.2 ++ [-1])) := by
        rw [← resA_set, hrl.out]; exact hr1.out.set_ k _
      have hb2 := hb1.out.far (p := ⟨w2.heap.size, k, none⟩) (by simp; omega) (.int .i64 (-1))
      have hX2 := hX1.out.setCell (p := ⟨w2.heap.size, k, none⟩) (by simp; omega) (.int .i64 (-1))
      generalize W1.setCell ⟨w2.heap.size, k, none⟩ (.int .i64 (-1)) = W2 at hr2 hb2 hX2 ⊢
      have hr2 := Lib.hid hr2
      have hb2 := Lib.hid hb2
      have hX2 := Lib.hid hX2
      clear hc1 hf1 hr1 hS1 hb1 hX1 HBb HBr HX hrow' hz1 hsz
      go_loopw [9, 42] (fun c i wr => ∃ j : Nat, j ≤ 12 ∧ i = .int .i64 j ∧ c = .int .i64 (matM cs k).2.1 ∧ Hid (∀ i, i < j → picks cs k (matM cs k).1 (matM cs k).2.1 i = false) ∧ Blk wr w1.heap.size 58 (crewA (matM cs k).1) ∧ Blk wr w2.heap.size 3 (resA needs.length ((matM cs k).2.2 ++ [-1])) ∧ Ext w1 wr) (fun _ i _ => 12 - (intOf i).toNat)
      case atStart => exact ⟨0, by omega, rfl, rfl, Lib.hid (fun i hi => absurd hi (by omega)), hb2.out, hr2.out, hX2.out⟩
      case round =>
        obtain ⟨j, hj, rfl, rfl, HJ, hBb, hBr, hext⟩ := hrel
        have HBb := Lib.hid hBb
        have HBr := Lib.hid hBr
        have HX := Lib.hid hext
        by_cases hjl : j < 12
        · have hix := run_index_crew ck j hjl
          have hcb := hBb.cell j
          rw [crewA_get _ _ hjl] at hcb
          have hsz : w2.heap.size < wr.heap.size := hBr.lt
          have hjI : (j : Int) < 12 := by omega
          clear hBb hBr hext
          cases hcj : ck j with
          | false =>
            rw [hcj] at hix
            have hno := Lib.hid (show picks cs k (matM cs k).1 (matM cs k).2.1 j = false by simp [picks, HCK.out, hcj])
            go_wp2_with fail
            go_roundw
            case rel => exact ⟨j + 1, by omega, by go_num, rfl, Lib.hid (fun i hi => by rcases Nat.lt_succ_iff_lt_or_eq.1 hi with h | rfl; exact HJ.out i h; exact hno.out), HBb.out, HBr.out, HX.out⟩
            case measure => simp [intOf]; omega
          | true =>
            rw [hcj] at hix
            cases hbj : (matM cs k).1 j with
            | true =>
              rw [hbj] at hcb
              have hno := Lib.hid (show picks cs k (matM cs k).1 (matM cs k).2.1 j = false by simp [picks, hbj])
              go_wp2_with fail
              go_roundw
              case rel => exact ⟨j + 1, by omega, by go_num, rfl, Lib.hid (fun i hi => by rcases Nat.lt_succ_iff_lt_or_eq.1 hi with h | rfl; exact HJ.out i h; exact hno.out), HBb.out, HBr.out, HX.out⟩
              case measure => simp [intOf]; omega
            | false =>
              rw [hbj] at hcb
              go_wp2_with (first
                | ((with_reducible (show wpList _ _ _ (Oper.mk (some 53) (.load 58 (.tmp 8)) _ _ _ _ :: _) _ _)); refine wpList_load_row rfl 58 (.tmp 8) rfl w1.heap.size rfl 58 (crewA (matM cs k).1) (0, 0) _ HBb.out Try.underlying58 rfl (by rw [crewA_size]; exact info58) ?_)
                | ((with_reducible (show wpList _ _ _ (Oper.mk (none) (.store 58 (.tmp 15) (.tmp 53)) _ _ _ _ :: _) _ _)); refine wpList_store_whole rfl 58 (.tmp 15) (.tmp 53) rfl wr.heap.size 58 #[.bool false, .bool false, .bool false, .bool false, .bool false, .bool false, .bool false, .bool false, .bool false, .bool false, .bool false, .bool false] (crewA (matM cs k).1) rfl rfl (Blk.new _ _ _) (by rw [crewA_size]; rfl) (by rw [crewA_size]; exact info58) (crewA_one _) ?_; intro W1 hS1 hT1; have hr1 := Lib.hid (hT1.blk (HBr.out.alloc _) (by omega) (by omega)); have hb1 := Lib.hid (hT1.blk (HBb.out.alloc _) (by omega) (by omega)); have hX1 := Lib.hid ((HX.out.alloc (.cells #[.bool false, .bool false, .bool false, .bool false, .bool false, .bool false, .bool false, .bool false, .bool false, .bool false, .bool false, .bool false] 58)).trans_below (hT1.below (B := w1.heap.size) (by omega) (by omega))); have hz1 := hT1.size; simp only [World.size_alloc] at hz1; have hz1 : wr.heap.size < W1.heap.size := (by omega); have hc1 := hS1.cell j; rw [crewA_get _ _ hjl] at hc1; have hf1 := hS1.frozen j; have hS1 := Lib.hid hS1; clear hT1))
              have hS2 : Blk (W1.setCell ⟨wr.heap.size, j, none⟩ (.bool true)) wr.heap.size 58 (crewA (upd (matM cs k).1 j true)) := by
                rw [← crewA_set]; exact hS1.out.set_ j _
              have hb3 := hb1.out.far (p := ⟨wr.heap.size, j, none⟩) (by simp; omega) (.bool true)
              have hr3 := hr1.out.far (p := ⟨wr.heap.size, j, none⟩) (by simp; omega) (.bool true)
              have hX3 := hX1.out.setCell (p := ⟨wr.heap.size, j, none⟩) (by simp; omega) (.bool true)
              have hz3 : wr.heap.size < (W1.setCell ⟨wr.heap.size, j, none⟩ (.bool true)).heap.size := by simpa using hz1
              generalize W1.setCell ⟨wr.heap.size, j, none⟩ (.bool true) = U at hS2 hb3 hr3 hX3 hz3 ⊢
              have hS2 := Lib.hid hS2
              have hb3 := Lib.hid hb3
              have hr3 := Lib.hid hr3
              have hX3 := Lib.hid hX3
              clear hc1 hf1 hcb hix hr1 hS1 hb1 hX1 HBb HBr HX hr2 hb2 hX2 hz1
              obtain ⟨bb, hbb⟩ : ∃ bb : Nat → Bool, bb = upd (matM cs k).1 j true := ⟨_, rfl⟩
              rw [← hbb] at hS2
              obtain ⟨L, hL⟩ : ∃ L : Nat, L = larg (cs.drop (k + 1)) bb := ⟨_, rfl⟩
              have hL16 : L ≤ 16 := by
                have := largM_le (cs.drop (k + 1)) bb (cs.drop (k + 1)).length
                rw [hL]; unfold larg; rw [List.length_drop, hlen.out] at this; rw [List.length_drop, hlen.out]; omega
              have hRU := HC.out.ext hX3.out
              have hcut := hRU.cut (k + 1) (by omega)
              have hN : U.heap.size ≤ U.heap.size := Nat.le_refl _
              have hrg : U.rangeAt wr.heap.size 0 (crewL bb) := by
                intro i v hv; rw [Nat.zero_add, hS2.out.cell]; simpa [crewA] using hv
              have hkI : (k : Int) + 1 ≤ (needs.length : Int) := by omega
              have hcI : (needs.length : Int) ≤ (cap : Int) := by omega
              have hk2 : k + 1 ≤ needs.length := by omega
              have hk4 : (k : Int) + 1 ≤ (cap : Int) := by omega
              have hk5 : (0 : Int) ≤ (k : Int) + 1 := by omega
              have hu58 := Try.underlying58
              have hi58 : (Try.prog.info? 58).map (·.size) = some (crewL bb).length := by rw [crewL_length]; exact info58
              replace hbb := Lib.hid hbb
              replace hL := Lib.hid hL
              replace hrg := Lib.hid hrg
              clear hRU
              have hdl : (cs.drop (k + 1)).length ≤ 1000 := by rw [List.length_drop, hlen.out]; omega
              have hpk : picks cs k (matM cs k).1 (matM cs k).2.1 j = decide (1 + (L : Int) = (matM cs k).2.1) := by
                unfold picks; rw [← hbb.out, ← hL.out, HCK.out, hcj, hbj]; simp
              replace hpk := Lib.hid hpk
              have hceq : (cap : Int) = (k : Int) + 1 ∨ ¬ (cap : Int) = (k : Int) + 1 := by omega
              have hkn' : ((k : Int) + 1).toNat = k + 1 := by omega
              have hkw : IntKind.i64.wrap ((k : Int) + 1) = (k : Int) + 1 := IntWalk.i64_in _ (by omega)
              have hLw : IntKind.i64.wrap (1 + (L : Int)) = 1 + (L : Int) := IntWalk.i64_in _ (by omega)
              by_cases hce : cap = k + 1
              · have hz0 : needs.length - (k + 1) = 0 := Nat.sub_eq_zero_of_le (hce ▸ hcap)
                subst hce
                rw [if_pos rfl, Nat.sub_self, hz0] at hcut
                clear hz0
                replace hcut := Lib.hid hcut
                clear hceq
                go_region_held3 (fun w' => w'.rangeAt wr.heap.size 0 (crewL bb) ∧ Kp U.heap.size U w')
                  (first
                    | (exact (Kp.start hN).drew.rng hrg.out hz3)
                    | (go_split_ands; exact ((by assumption : Kp _ _ _).call he).rng hrg.out hz3))
                  (first
                    | (go_at_call 32; have hkp := (by assumption : _ ∧ Kp _ _ _).2; have hrc := hcut.out.ext (hkp.ext (Ext.refl _) (Nat.le_refl _)); have hcl := c_largest _ (cs.drop (k + 1)) bb _ hrc hdl; rw [← hL.out] at hcl; refine hcl.mono ?_; rintro e w3 ⟨rfl, he⟩; clear hcl hrc hkp))
                clear hkw hLw hkn' hrg hcut hN hdl
                have hS4 := Lib.hid (hS2.out.drew.ext he)
                have hb4 := Lib.hid (hb3.out.drew.ext he)
                have hr4' := hr3.out.drew.ext he
                have hX4 := Lib.hid (hX3.out.drew.trans he)
                have hz4 : U.heap.size ≤ w3.heap.size := he.size
                have hfr := hr4'.frozen k
                have hcr : w3.cell? ⟨w2.heap.size, k, none⟩ = some (.int .i64 (-1)) := by
                  rw [hr4'.cell k, resA_get _ _ _ hlt]; congr 2; simp [hrl.out, List.getD_eq_getElem?_getD]
                replace hr4' := Lib.hid hr4'
                clear hS2 hb3 hr3 hX3 he
                cases hq : (1 + (L : Int) == (matM cs k).2.1) with
                | true =>
                  have hyes := Lib.hid (matM_some hjl HJ.out (by rw [hpk.out]; simpa using hq))
                  rw [← hbb.out] at hyes
                  have hgb := hb4.out.far (p := ⟨w2.heap.size, k, none⟩) (by simp; omega) (.int .i64 j)
                  have hgs := hS4.out.far (p := ⟨w2.heap.size, k, none⟩) (by simp; omega) (.int .i64 j)
                  have hgr : Blk (w3.setCell ⟨w2.heap.size, k, none⟩ (.int .i64 j)) w2.heap.size 3 (resA needs.length ((matM cs k).2.2 ++ [(j : Int)])) := by
                    rw [← resA_over _ _ (-1), hrl.out]; exact hr4'.out.set_ k _
                  have hgx := hX4.out.setCell (p := ⟨w2.heap.size, k, none⟩) (by simp; omega) (.int .i64 j)
                  replace hgb := Lib.hid hgb
                  replace hgs := Lib.hid hgs
                  replace hgr := Lib.hid hgr
                  replace hgx := Lib.hid hgx
                  go_wp2_with (first
                    | ((with_reducible (show wpList _ _ _ (Oper.mk (some 69) (.load 58 (.tmp 15)) _ _ _ _ :: _) _ _)); refine wpList_load_row rfl 58 (.tmp 15) rfl wr.heap.size rfl 58 (crewA bb) (0, 0) _ hgs.out Try.underlying58 rfl (by rw [crewA_size]; exact info58) ?_)
                    | ((with_reducible (show wpList _ _ _ (Oper.mk (none) (.store 58 (.tmp 8) (.tmp 69)) _ _ _ _ :: _) _ _)); refine wpList_store_whole rfl 58 (.tmp 8) (.tmp 69) rfl w1.heap.size 58 (crewA (matM cs k).1) (crewA bb) rfl rfl hgb.out (by rw [crewA_size, crewA_size]) (by rw [crewA_size]; exact info58) (crewA_one _) ?_; intro W5 hS5 hT5; replace hS5 := Lib.hid hS5; replace hT5 := Lib.hid hT5))
                  go_roundw
                  case rel =>
                    refine ⟨k + 1, by omega, by go_num, ?_, ?_, ?_, ?_⟩
                    · rw [hyes.out]
                    · rw [hyes.out]; exact hS5.out
                    · rw [hyes.out]; exact hT5.out.blk hgr.out (by omega) (by omega)
                    · exact hgx.out.trans_below (hT5.out.below (B := w1.heap.size) (by omega) (by omega))
                  case measure => simp [intOf]; omega
                | false =>
                  have hno := Lib.hid (show picks cs k (matM cs k).1 (matM cs k).2.1 j = false by rw [hpk.out]; simpa using hq)
                  go_wp2_with fail
                  go_roundw
                  case rel => exact ⟨j + 1, by omega, by go_num, rfl, Lib.hid (fun i hi => by rcases Nat.lt_succ_iff_lt_or_eq.1 hi with h | rfl; exact HJ.out i h; exact hno.out), hb4.out, hr4'.out, hX4.out⟩
                  case measure => simp [intOf]; omega
              · rw [if_neg hce, Option.map_some, addr_add0] at hcut
                replace hcut := Lib.hid hcut
                clear hceq
                have hce' : ¬ (cap : Int) = (k : Int) + 1 := fun h => hce (by exact_mod_cast h)
                go_region_held3 (fun w' => w'.rangeAt wr.heap.size 0 (crewL bb) ∧ Kp U.heap.size U w')
                  (first
                    | (exact (Kp.start hN).drew.rng hrg.out hz3)
                    | (go_split_ands; exact ((by assumption : Kp _ _ _).call he).rng hrg.out hz3))
                  (first
                    | (go_at_call 32; have hkp := (by assumption : _ ∧ Kp _ _ _).2; have hrc := hcut.out.ext (hkp.ext (Ext.refl _) (Nat.le_refl _)); have hcl := c_largest _ (cs.drop (k + 1)) bb _ hrc hdl; rw [← hL.out] at hcl; refine hcl.mono ?_; rintro e w3 ⟨rfl, he⟩; clear hcl hrc hkp))
                clear hce' hce
                clear hkw hLw hkn' hrg hcut hN hdl
                have hS4 := Lib.hid (hS2.out.drew.ext he)
                have hb4 := Lib.hid (hb3.out.drew.ext he)
                have hr4' := hr3.out.drew.ext he
                have hX4 := Lib.hid (hX3.out.drew.trans he)
                have hz4 : U.heap.size ≤ w3.heap.size := he.size
                have hfr := hr4'.frozen k
                have hcr : w3.cell? ⟨w2.heap.size, k, none⟩ = some (.int .i64 (-1)) := by
                  rw [hr4'.cell k, resA_get _ _ _ hlt]; congr 2; simp [hrl.out, List.getD_eq_getElem?_getD]
                replace hr4' := Lib.hid hr4'
                clear hS2 hb3 hr3 hX3 he
                cases hq : (1 + (L : Int) == (matM cs k).2.1) with
                | true =>
                  have hyes := Lib.hid (matM_some hjl HJ.out (by rw [hpk.out]; simpa using hq))
                  rw [← hbb.out] at hyes
                  have hgb := hb4.out.far (p := ⟨w2.heap.size, k, none⟩) (by simp; omega) (.int .i64 j)
                  have hgs := hS4.out.far (p := ⟨w2.heap.size, k, none⟩) (by simp; omega) (.int .i64 j)
                  have hgr : Blk (w3.setCell ⟨w2.heap.size, k, none⟩ (.int .i64 j)) w2.heap.size 3 (resA needs.length ((matM cs k).2.2 ++ [(j : Int)])) := by
                    rw [← resA_over _ _ (-1), hrl.out]; exact hr4'.out.set_ k _
                  have hgx := hX4.out.setCell (p := ⟨w2.heap.size, k, none⟩) (by simp; omega) (.int .i64 j)
                  replace hgb := Lib.hid hgb
                  replace hgs := Lib.hid hgs
                  replace hgr := Lib.hid hgr
                  replace hgx := Lib.hid hgx
                  go_wp2_with (first
                    | ((with_reducible (show wpList _ _ _ (Oper.mk (some 69) (.load 58 (.tmp 15)) _ _ _ _ :: _) _ _)); refine wpList_load_row rfl 58 (.tmp 15) rfl wr.heap.size rfl 58 (crewA bb) (0, 0) _ hgs.out Try.underlying58 rfl (by rw [crewA_size]; exact info58) ?_)
                    | ((with_reducible (show wpList _ _ _ (Oper.mk (none) (.store 58 (.tmp 8) (.tmp 69)) _ _ _ _ :: _) _ _)); refine wpList_store_whole rfl 58 (.tmp 8) (.tmp 69) rfl w1.heap.size 58 (crewA (matM cs k).1) (crewA bb) rfl rfl hgb.out (by rw [crewA_size, crewA_size]) (by rw [crewA_size]; exact info58) (crewA_one _) ?_; intro W5 hS5 hT5; replace hS5 := Lib.hid hS5; replace hT5 := Lib.hid hT5))
                  go_roundw
                  case rel =>
                    refine ⟨k + 1, by omega, by go_num, ?_, ?_, ?_, ?_⟩
                    · rw [hyes.out]
                    · rw [hyes.out]; exact hS5.out
                    · rw [hyes.out]; exact hT5.out.blk hgr.out (by omega) (by omega)
                    · exact hgx.out.trans_below (hT5.out.below (B := w1.heap.size) (by omega) (by omega))
                  case measure => simp [intOf]; omega
                | false =>
                  have hno := Lib.hid (show picks cs k (matM cs k).1 (matM cs k).2.1 j = false by rw [hpk.out]; simpa using hq)
                  go_wp2_with fail
                  go_roundw
                  case rel => exact ⟨j + 1, by omega, by go_num, rfl, Lib.hid (fun i hi => by rcases Nat.lt_succ_iff_lt_or_eq.1 hi with h | rfl; exact HJ.out i h; exact hno.out), hb4.out, hr4'.out, hX4.out⟩
                  case measure => simp [intOf]; omega
        · have hj12 : j = 12 := by omega
          have hno := Lib.hid (matM_none (cs := cs) (k := k) (fun i hi => HJ.out i (by omega)))
          have hjI : ¬ (j : Int) < 12 := by omega
          clear hBb hBr hext hj12
          go_wp2_with fail
          go_roundw
          case rel =>
            refine ⟨k + 1, by omega, by go_num, ?_, ?_, ?_, ?_⟩
            · rw [hno.out]
            · rw [hno.out]; exact HBb.out
            · rw [hno.out]; exact HBr.out
            · exact HX.out
          case measure => simp [intOf]; omega
    · go_wp2
      go_ret2
      have hkn : k = needs.length := by omega
      refine ⟨_, rfl, ?_, ?_, ?_⟩
      · have hl := hrl.out
        rw [hkn] at hl hBr
        have hf := resA_full (r := (matM cs needs.length).2.2) (by rw [hl]; exact hBr) (by rw [hl]; unfold maxLen; omega)
        rw [hl] at hf
        exact hf
      · exact Fresh.mk _ _ _ _ _ _ (by have := HX1.out.size; omega)
      · exact HX1.out.trans HX.out
end Go.Proofs.Ythfcllefmeoicaa
