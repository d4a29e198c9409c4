/- Contracts of polygon.Check, outline.isName, vertices. -/
import Derived.Test.YtiahfiopigjolaaGreatLen
namespace Go.Proofs.YtiahfiopigjolaaGreat
open Go Go.RowKit
attribute [local go_sem ↓] Go.wp_at_zero Go.wp_at_succ

theorem pgCheck_many {l : List Sp} (h : 40 < l.length) : pgCheck l = 5 := by unfold pgCheck; rw [if_pos h]
theorem pgCheck_few {l : List Sp} (h : ¬ 40 < l.length) (h2 : l.length < 3) : pgCheck l = 11 := by unfold pgCheck; rw [if_neg h, if_pos h2]
theorem pgCheck_out {l : List Sp} (h : ¬ 40 < l.length) (h2 : ¬ l.length < 3) (h3 : l.any outB = true) : pgCheck l = 3 := by unfold pgCheck; rw [if_neg h, if_neg h2, if_pos h3]
theorem pgCheck_simp {l : List Sp} (h : ¬ 40 < l.length) (h2 : ¬ l.length < 3) (h3 : l.any outB = false) : pgCheck l = if simpB l then 0 else 11 := by
  unfold pgCheck; rw [if_neg h, if_neg h2, if_neg (by rw [h3]; decide)]
theorem ins_of {l : List Sp} (h : l.any outB = false) : ∀ s ∈ l, InS s := fun s hs => inS_of (by
  cases e : outB s with
  | false => rfl
  | true => rw [List.any_eq_true.2 ⟨s, hs, e⟩] at h; cases h)

set_option maxHeartbeats 1000000 in
theorem c_pgCheck (v : Value) (xs : List Sp) (w : World) (h : RdL 2 spP w v xs) : Calls Tryz.prog 34 #[v] w fun e w' => e = .returned (.int .i64 (pgCheck xs)) ∧ Ext w w' := by
  have hc := Lib.hid (fun w h => c_pgAnyOut v xs w h)
  have hs := Lib.hid (fun w h h1 h2 h3 => c_simple v xs w h h1 h2 h3)
  obtain ⟨A, c, rfl⟩ := h.slice
  replace h := Lib.hid h
  go_enter Tryz.func34, Tryz.ntmps34
  by_cases h40 : 40 < xs.length
  · have hp := Lib.hid (pgCheck_many h40)
    go_wp2
    go_ret
    exact ⟨ret_int hp.out.symm, Ext.refl w⟩
  · by_cases h2 : xs.length < 3
    · have hp := Lib.hid (pgCheck_few h40 h2)
      go_wp2
      go_ret
      exact ⟨ret_int hp.out.symm, Ext.refl w⟩
    · go_wp2_with fail
      refine (hc.out _ h.out).mono ?_
      rintro e w1 ⟨rfl, hx⟩
      replace hx := Lib.hid hx
      rcases ho : xs.any outB with _ | _
      rotate_left
      · have hp := Lib.hid (pgCheck_out h40 h2 ho)
        replace ho := Lib.hid ho
        go_wp2
        go_ret
        exact ⟨ret_int hp.out.symm, hx.out⟩
      · have hp := Lib.hid (pgCheck_simp h40 h2 ho)
        have hin := Lib.hid (ins_of ho)
        replace ho := Lib.hid ho
        go_wp2_with fail
        refine (hs.out _ (h.out.ext spP.stays hx.out) hin.out (by omega) (by omega)).mono ?_
        rintro e w2 ⟨rfl, hx2⟩
        have hE := Lib.hid (hx.out.trans hx2)
        clear hx2
        rcases hsb : simpB xs with _ | _
        · have hp2 := Lib.hid (show pgCheck xs = 11 by rw [hp.out, hsb]; rfl)
          replace hsb := Lib.hid hsb
          go_wp2
          go_ret
          exact ⟨ret_int hp2.out.symm, hE.out⟩
        · have hp2 := Lib.hid (show pgCheck xs = 0 by rw [hp.out, hsb]; rfl)
          replace hsb := Lib.hid hsb
          go_wp2
          go_ret
          exact ⟨ret_int hp2.out.symm, hE.out⟩

set_option maxHeartbeats 1000000 in
theorem c_olName (s : ByteArray) (w : World) (hs : s.size ≤ maxLen) : Calls Tryz.prog 33 #[.string s] w fun e w' => e = .returned (.bool (nmB s)) ∧ Ext w w' := by
  have hc := Lib.hid (fun w => c_fCheck s w hs)
  unfold nameExpr at hc
  replace hs := Lib.hid hs
  go_enter Tryz.func33, Tryz.ntmps33
  go_wp2_with fail
  refine (hc.out _).mono ?_
  rintro e w1 ⟨rfl, hx⟩
  replace hx := Lib.hid hx
  cases hn : nmB s with
  | true =>
    have he : nmE s = 0 := by unfold nmE; rw [hn]; rfl
    rw [he]
    go_wp2
    go_ret
    exact ⟨ret_bool hn.symm, hx.out⟩
  | false =>
    have he : nmE s = 1 := by unfold nmE; rw [hn]; rfl
    rw [he]
    go_wp2
    go_ret
    exact ⟨ret_bool hn.symm, hx.out⟩
set_option maxHeartbeats 1000000 in
theorem c_stName (s : ByteArray) (w : World) (hs : s.size ≤ maxLen) : Calls Tryz.prog 28 #[.string s] w fun e w' => e = .returned (.bool (nmB s)) ∧ Ext w w' := by
  have hc := Lib.hid (fun w => c_fCheck s w hs)
  unfold nameExpr at hc
  replace hs := Lib.hid hs
  go_enter Tryz.func28, Tryz.ntmps28
  go_wp2_with fail
  refine (hc.out _).mono ?_
  rintro e w1 ⟨rfl, hx⟩
  replace hx := Lib.hid hx
  cases hn : nmB s with
  | true =>
    have he : nmE s = 0 := by unfold nmE; rw [hn]; rfl
    rw [he]
    go_wp2
    go_ret
    exact ⟨ret_bool hn.symm, hx.out⟩
  | false =>
    have he : nmE s = 1 := by unfold nmE; rw [hn]; rfl
    rw [he]
    go_wp2
    go_ret
    exact ⟨ret_bool hn.symm, hx.out⟩

/-- append of a whole slice of structures onto a row of the call's own -/
theorem wpList_appM {α : Type} {P : Program} {w : World} {ops : Array Oper} {rest : List Oper} {o : Oper} {a : Act} {Q : Exit → Act → World → Prop} (hgd : o.guard = none) (s x : Operand) (t : TypeId)
    (ho : o.op = .call { callee := .builtin .append, args := #[s, x], argTypes := #[t, t] })
    (E k B bytes : Nat) (z : Value) (enc : α → List Value) (ht : P.underlying t = some (.slice E)) (hinfo : (P.info? E).map (fun i => (i.zero, i.size, i.bytes)) = some (some z, k, bytes)) (hz : z.cells.size = k) (h0 : 0 < k) (hb : bytes ≤ 100)
    (hk : ∀ x, (enc x).length = k) (h1 : ∀ x, ∀ u ∈ enc x, u.oneCell' = true)
    (v : Value) (l ys : List α) (A : Option Addr) (c : Nat) (hs : a.eval s = v) (hown : OwnE E k enc B w v l) (hx : a.eval x = .slice A ys.length c)
    (hc : ∀ j (h : j < ys.length), ∃ b o, A = some ⟨b, o, none⟩ ∧ ∀ i, i < k → w.cell? ⟨b, o + j * k + i, none⟩ = (enc ys[j])[i]?)
    (hlen : l.length + ys.length ≤ 1000000) (hbase : B ≤ w.heap.size)
    (h : ∀ A' cap w', OwnE E k enc B w' (.slice A' (l.length + ys.length) cap) (l ++ ys) → w.grownBy w' v.ownBlock → wpList P ops Q rest (a.put o.dst (.slice A' (l.length + ys.length) cap)) w') :
    wpList P ops Q (o :: rest) a w := by
  obtain ⟨i, hi, hz0, hz1, hz2⟩ := info_parts hinfo
  have hfl : ∀ ys : List α, (ys.flatMap enc).length = ys.length * k := by
    intro ys
    induction ys with
    | nil => simp
    | cons a l ih => rw [List.flatMap_cons, List.length_append, ih, hk, List.length_cons, Nat.succ_mul]; omega
  have key : ∃ v' w', (Builtin.append_ #[t, t] o.type #[v, .slice A ys.length c]).run P w = .ok v' w' ∧ OwnE E k enc B w' v' (l ++ ys) ∧ w.grownBy w' v.ownBlock := by
    rcases A with _ | ad
    · have h0 : ys = [] := by
        rcases ys with _ | ⟨y, r⟩
        · rfl
        · obtain ⟨b, o, e, _⟩ := hc 0 (by simp)
          cases e
      subst h0
      exact ⟨v, w, run_append_of_none w B t o.type E i k ht hi v l.length _ hown c, by simpa using hown, ⟨rfl, rfl, rfl, Nat.le_refl _, fun _ _ _ => rfl⟩⟩
    · have hcells : ∀ j u, (ys.flatMap enc)[j]? = some u → w.cell? (ad.add j) = some u := by
        intro j u hu
        have hj : j < ys.length * k := by rw [← hfl]; exact (List.getElem?_eq_some_iff.1 hu).1
        have hp : j / k < ys.length := Nat.div_lt_of_lt_mul (by rw [Nat.mul_comm]; exact hj)
        have hm : j % k < k := Nat.mod_lt _ h0
        have hd : j = j / k * k + j % k := by rw [Nat.mul_comm]; exact (Nat.div_add_mod j k).symm
        obtain ⟨b, o, e, hcc⟩ := hc (j / k) hp
        injection e with e
        subst e
        rw [addr_add0]
        have h3 := flat_get enc hk ys (j / k) hp (j % k) hm
        rw [← hd, hu] at h3
        have h4 := hcc (j % k) hm
        rw [← h3, Nat.add_assoc, ← hd] at h4
        exact h4
      obtain ⟨v', w', hr, h2, h3, _, _⟩ := run_append_own_at (P := P) w B t o.type E i z k bytes ht hi hz0 hz1 hz2 hz h0 v l.length _ hown ad ys.length c (ys.flatMap enc) (hfl ys) hcells
        (by intro u hu; obtain ⟨y, _, hy⟩ := List.mem_flatMap.1 hu; exact h1 y u hy) (by simp only [maxLen]; omega) (by have : (l.length + ys.length) * bytes ≤ (l.length + ys.length) * 100 := Nat.mul_le_mul_left _ hb; omega) hbase
      exact ⟨v', w', hr, by unfold OwnE; simpa using h2, h3⟩
  obtain ⟨v', w', hr, ho2, hg⟩ := key
  obtain ⟨A', cap, rfl⟩ := ho2.slice
  simp only [List.length_append] at ho2 hr
  refine wpList_plain hgd fun K hK => ?_
  unfold Oper.wp execOp
  simp only [ho, resolve, invoke, builtin, Sem.run_bind, Sem.run_pure, Result.andThen_ok, List.map_toArray, List.map_cons, List.map_nil, hs, hx, hr]
  exact hK _ _ (h A' cap w' ho2 hg)
theorem spC_len (s : Sp) : (spC s).length = 2 := rfl
theorem spC_one (s : Sp) : ∀ u ∈ spC s, u.oneCell' = true := by
  intro u hu
  simp only [spC, List.mem_cons, List.not_mem_nil, or_false] at hu
  rcases hu with rfl | rfl <;> rfl
theorem info_spot : (Tryz.prog.info? 66).map (fun i => (i.zero, i.size, i.bytes)) = some (some (.agg #[.int .i64 0, .int .i64 0]), 2, 16) := by kernel_rfl
theorem OwnE.rdSp {E : TypeId} {B : Nat} {w : World} {v : Value} {l : List Sp} (h : OwnE E 2 spC B w v l) : RdL 2 spP w v l := by
  obtain ⟨A, cap, rfl, h1, h2, h3⟩ := h.cells spC_len (by omega)
  refine ⟨A, cap, rfl, h1, h2, fun j hj => ?_⟩
  obtain ⟨b, o, rfl, hc⟩ := h3 j hj
  exact ⟨b, o, _, rfl, rfl, rfl, hc⟩
theorem RdL.spc {w : World} {A : Option Addr} {n c : Nat} {xs : List Sp} (h : RdL 2 spP w (.slice A n c) xs) (j : Nat) (hj : j < xs.length) : ∃ b o, A = some ⟨b, o, none⟩ ∧ ∀ i, i < 2 → w.cell? ⟨b, o + j * 2 + i, none⟩ = (spC xs[j])[i]? := by
  obtain ⟨A', c', e, _, _, h3⟩ := h
  injection e with e1 _ _
  obtain ⟨b, o, cs, e2, hp, _, hc⟩ := h3 j hj
  have hp : cs = spC xs[j] := hp
  subst hp
  exact ⟨b, o, e1.trans e2, hc⟩

theorem verts_snoc (l : List Ed) (k : Nat) (h : k < l.length) : verts (l.take (k + 1)) = verts (l.take k) ++ l[k].line.take (l[k].line.length - 1) := by
  unfold verts
  rw [take_snoc l k h, List.flatMap_append]
  simp
theorem verts_len (l : List Ed) (h : ∀ e ∈ l, e.line.length ≤ 40) : (verts l).length ≤ l.length * 40 := by
  unfold verts
  induction l with
  | nil => simp
  | cons e r ih =>
    rw [List.flatMap_cons, List.length_append, List.length_cons, List.length_take]
    have h1 := ih fun x hx => h x (List.mem_cons_of_mem _ hx)
    have h2 := h e (by simp)
    omega

set_option maxHeartbeats 2000000 in
theorem c_vertices (v : Value) (es : List Ed) (w : World) (h : RdL 2 edP w v es) (hl : ∀ e ∈ es, 1 ≤ e.line.length ∧ e.line.length ≤ 40) (h16 : es.length ≤ 16) : Calls Tryz.prog 35 #[v] w fun e w' => ∃ u, e = .returned u ∧ RdL 2 spP w' u (verts es) ∧ Ext w w' := by
  obtain ⟨A, c, rfl⟩ := h.slice
  replace h := Lib.hid h
  replace hl := Lib.hid hl
  go_enter Tryz.func35, Tryz.ntmps35
  go_wp2
  go_loopw [3, 8] (fun u i wr => ∃ (k : Nat) (gs : List Sp), k ≤ es.length ∧ i = .int .i64 (k : Nat) ∧ gs = verts (es.take k) ∧ OwnE 66 2 spC w.heap.size wr u gs ∧ Ext w wr) (fun _ i _ => es.length - (intOf i).toNat)
  case atStart => exact ⟨0, [], Nat.zero_le _, rfl, rfl, OwnE.nil _ _ _ _ _, Ext.refl _⟩
  case round =>
    obtain ⟨k, gs, hk, rfl, hgs, hown, hX⟩ := hrel
    obtain ⟨Ag, cg, rfl⟩ := hown.slice
    by_cases hlt : k < es.length
    · obtain ⟨b, o, L, m, rfl, hline, _, c0, c1⟩ := h.out.edge k hlt
      obtain ⟨hl1, hl2⟩ := hl.out _ (List.getElem_mem hlt)
      have hglen : gs.length ≤ 640 := by
        have h1 := verts_len (es.take k) fun e he => (hl.out e (List.mem_of_mem_take he)).2
        rw [← hgs, List.length_take] at h1
        omega
      have hsn := Lib.hid (verts_snoc es k hlt)
      rw [← hgs] at hsn
      replace hgs := Lib.hid hgs
      obtain ⟨ed, hed⟩ : ∃ e, e = es[k] := ⟨_, rfl⟩
      rw [← hed] at hline c0 c1 hl1 hl2 hsn
      clear hed
      have hlm : ed.line.length ≤ m ∧ m ≤ 9223372036854775807 := by
        obtain ⟨_, _, e, h1, h2, _⟩ := hline
        injection e with _ _ e2
        unfold maxLen at h2
        omega
      obtain ⟨n, hn⟩ : ∃ n, n + 1 = ed.line.length := ⟨ed.line.length - 1, by omega⟩
      obtain ⟨ys, hys⟩ : ∃ ys, ys = ed.line.take n := ⟨_, rfl⟩
      have htl : ys.length = n := by rw [hys, List.length_take]; omega
      have hlt2 := Lib.hid (show RdL 2 spP wr (.slice L ys.length m) ys by
        rw [htl, hys]
        exact (hline.take n (by omega)).ext spP.stays hX)
      rw [show ed.line.length - 1 = n by omega, ← hys] at hsn
      clear hys hline
      replace c0 := hX.cell c0
      replace c1 := hX.cell c1
      have lb := World.block_lt_of_cell? _ _ c0
      have hXs := Lib.hid hX.size
      replace hown := Lib.hid hown
      replace hX := Lib.hid hX
      have hki : (k : Int) < es.length := by omega
      have hnw : IntKind.i64.wrap ((ed.line.length : Int) - 1) = (ys.length : Int) := (IntWalk.i64_in _ (by omega)).trans (by omega)
      have hn0 : (0 : Int) ≤ ys.length := by omega
      have hnm : (ys.length : Int) ≤ m := by omega
      have hadd : gs.length + ys.length ≤ 1000000 := by omega
      replace hn := Lib.hid hn
      replace htl := Lib.hid htl
      go_wp2_with (at_builtin; refine wpList_appM (α := Sp) rfl (.tmp 12) (.tmp 19) 42 rfl 66 2 w.heap.size 16 _ spC Tryz.underlying42 info_spot rfl (by decide) (by decide) spC_len spC_one _ gs ys L m rfl (hown.out.alloc _) rfl ((hlt2.out.ext spP.stays ((Ext.refl wr).alloc _)).spc) hadd (by have := hXs.out; simp; omega) ?_; intro A6 c6 w6 ho6 hg6; have hx6 := Lib.hid ((hown.out.alloc (.cells (edC ed (.slice L ed.line.length m)).toArray 48)).extGrown (hX.out.alloc _) (Nat.le_refl _) hg6); replace ho6 := Lib.hid ho6; replace hg6 := Lib.hid hg6)
      go_roundw
      case rel => exact ⟨k + 1, gs ++ ys, by omega, by go_num, by rw [hsn.out], ho6.out, hx6.out⟩
      case measure => simp [intOf]; omega
    · have hki : ¬ (k : Int) < es.length := by omega
      have hkn : k = es.length := by omega
      rw [hkn, List.take_length] at hgs
      replace hX := Lib.hid hX
      replace hown := Lib.hid hown
      replace hgs := Lib.hid hgs
      go_wp2
      go_ret
      exact ⟨_, rfl, by rw [← hgs.out]; exact hown.out.rdSp, hX.out⟩

end Go.Proofs.YtiahfiopigjolaaGreat
