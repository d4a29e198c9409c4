/- Parse of the program. -/
import Derived.Test.YtphaigncbenmmaaGreatDoorPln
import Derived.Test.YtphaigncbenmmaaGreatDoorChk
import Derived.Test.YtphaigncbenmmaaGreatDoorStp
namespace Go.Proofs.YtphaigncbenmmaaGreatDoor
open Go Go.RowKit

/-- a roll next to where its flaws lie -/
def rqV (p : Ro × Option Addr × Nat) : Value := .slice p.2.1 p.1.fl.length p.2.2
def rqC (p : Ro × Option Addr × Nat) : List Value := roC p.1 (rqV p)
theorem rqC_len (p : Ro × Option Addr × Nat) : (rqC p).length = 7 := rfl
theorem rqC_one (p : Ro × Option Addr × Nat) : ∀ u ∈ rqC p, u.oneCell' = true := by
  intro u hu
  simp only [rqC, roC, rqV, List.mem_cons, List.not_mem_nil, or_false] at hu
  rcases hu with rfl | rfl | rfl | rfl | rfl | rfl | rfl <;> rfl
theorem OwnE.rdQ {E : TypeId} {B : Nat} {w : World} {v : Value} {l : List (Ro × Option Addr × Nat)} (h : OwnE E 7 rqC B w v l) (hf : ∀ p ∈ l, RdF w (rqV p) p.1.fl) : RdR w v (l.map (·.1)) := by
  obtain ⟨A, cap, rfl, h1, h2, h3⟩ := h.cells rqC_len (by omega)
  refine ⟨A, cap, by simp, by simpa using h1, h2, fun j hj => ?_⟩
  have hj' : j < l.length := by simpa using hj
  obtain ⟨b, o, rfl, hc⟩ := h3 j hj'
  have h4 := hf _ (List.getElem_mem hj')
  rw [List.getElem_map]
  exact ⟨b, o, _, rfl, h4, hc 0 (by omega), hc 1 (by omega), hc 2 (by omega), hc 3 (by omega), hc 4 (by omega), hc 5 (by omega), hc 6 (by omega)⟩

theorem Blk.cellsQ {α : Type} {w : World} {g : Nat} {t : TypeId} {enc : α → List Value} {y : α} {k : Nat} (h : Blk w g t (enc y).toArray) : ∀ i, i < k → w.cell? ⟨g, i, none⟩ = (enc y)[i]? := fun i _ => by
  rw [h.cell]; simp

/-- how Parse ends -/
def ParOut (r : List Ro × Int × Nat) (w : World) (e : Ending) (w' : World) : Prop :=
  ∃ v, e = .returned (.tuple #[v, .int .i64 r.2.1, .int .i64 (r.2.2 : Nat)]) ∧ RdR w' v r.1 ∧ Ext w w'
theorem ParOut.err {r : List Ro × Int × Nat} {w w' : World} {c : Int} {n : Nat} (h : r = ([], c, n)) (he : Ext w w') : ParOut r w (.returned (.tuple #[.slice none 0 0, .int .i64 c, .int .i64 (n : Nat)])) w' := by
  subst h; exact ⟨_, rfl, RdR.nil _, he⟩
theorem ParOut.open_ {r : List Ro × Int × Nat} {l : List Ro} {c : Int} {n : Nat} {w w' : World} {e : Ending} (h : ParOut r w e w') (hr : r = (l, c, n)) : ∃ A cap, e = .returned (.tuple #[.slice A l.length cap, .int .i64 c, .int .i64 (n : Nat)]) ∧ RdR w' (.slice A l.length cap) l ∧ Ext w w' := by
  subst hr
  obtain ⟨v, rfl, h1, h2⟩ := h
  obtain ⟨A, cap, rfl⟩ := h1.slice
  exact ⟨A, cap, rfl, h1, h2⟩

/-- what Parse's loop keeps, the world ahead of it being w1 -/
structure ParAt (ws : List ByteArray) (w1 wr : World) (v : Value) (k : Nat) (ps : List (Ro × Option Addr × Nat)) : Prop where
  le : k ≤ ws.length
  up : ParUp (ws.map bs) k (ps.map (·.1))
  own : OwnE 26 7 rqC w1.heap.size wr v ps
  fls : ∀ p ∈ ps, OwnE 47 4 flC w1.heap.size wr (rqV p) p.1.fl ∧ ∀ f ∈ p.1.fl, FlI f
  ext : Ext w1 wr
theorem ParAt.rd {ws : List ByteArray} {w1 wr : World} {v : Value} {k : Nat} {ps : List (Ro × Option Addr × Nat)} (h : ParAt ws w1 wr v k ps) : RdR wr v (ps.map (·.1)) :=
  h.own.rdQ fun p hp => (h.fls p hp).1.rdF (h.fls p hp).2
theorem str_empty {s : ByteArray} (h : bs s = []) : s.toList = [] ∧ s.toList.isEmpty = true := by
  have h1 : s.toList = [] := by rw [ByteArray.toList_eq]; exact h
  exact ⟨h1, by rw [h1]; rfl⟩
theorem str_full {s : ByteArray} (h : bs s ≠ []) : ¬ s.toList = [] ∧ s.toList.isEmpty = false := by
  have h1 : ¬ s.toList = [] := by rw [ByteArray.toList_eq]; exact h
  refine ⟨h1, ?_⟩
  cases e : s.toList.isEmpty with
  | false => rfl
  | true => exact absurd (List.isEmpty_iff.1 e) h1

set_option maxRecDepth 20000 in
set_option maxHeartbeats 4000000 in
theorem c_parse (s : ByteArray) (w : World) (ht : Tab w) (hs : s.size ≤ 9223372036854775807) : Calls Tryz.prog 13 #[.string s] w (ParOut (parse (bs s)) w) := by
  replace ht := Lib.hid ht
  go_enter Tryz.func13, Tryz.ntmps13
  by_cases h20 : 20000 < s.size
  · go_wp2
    go_ret3
    exact ParOut.err (n := 0) (by unfold parse; rw [bs_len, if_pos h20]) (Ext.refl w)
  · have hp0 := Lib.hid (show parse (bs s) = goP 0 [] (cuts 10 (bs s)) by unfold parse; rw [bs_len, if_neg h20])
    go_wp2_with fail
    refine (l_split 10 s _ ht.out (by omega)).mono ?_
    rintro e w1 ⟨v, ws, rfl, hrd, hws, hx1⟩
    rw [← hws] at hp0
    have hl30 : ws.length ≤ 30001 := by
      have h1 : ws.length = (cuts 10 (bs s)).length := by rw [← hws, List.length_map]
      rw [h1, cuts_length]
      have := List.count_le_length (a := (10 : UInt8)) (l := bs s)
      rw [bs_len] at this
      omega
    have hsz := Lib.hid (show ∀ x ∈ ws, x.size ≤ 30000 from fun x hx => by
      have h1 : bs x ∈ cuts 10 (bs s) := by rw [← hws]; exact List.mem_map.2 ⟨x, hx, rfl⟩
      have := cuts_short _ _ h1
      rw [bs_len, bs_len] at this
      omega)
    obtain ⟨A, c, rfl, hcap, hmax, hc⟩ := hrd
    unfold maxLen at hmax
    replace hc := Lib.hid hc
    replace hx1 := Lib.hid hx1
    clear hws
    go_wp2
    go_loopw [5, 17] (fun v i wr => ∃ (k : Nat) (ps : List (Ro × Option Addr × Nat)), i = .int .i64 (k : Nat) ∧ ParAt ws w1 wr v k ps) (fun _ i _ => ws.length - (intOf i).toNat)
    case atStart => exact ⟨0, [], rfl, Nat.zero_le _, ParUp.start _, OwnE.nil _ _ _ _ _, fun _ h => (by cases h), Ext.refl _⟩
    case round =>
      obtain ⟨k, ps, rfl, hat⟩ := hrel
      obtain ⟨Ap, cp, rfl⟩ := hat.own.slice
      have hk := hat.le
      have hf20 : ps.length ≤ 20 := by have := hat.up.few; simpa using this
      by_cases hlt : k < ws.length
      · obtain ⟨b, o, rfl, c0⟩ := hc.out k hlt
        replace c0 := hat.ext.cell c0
        have hlm : k < (ws.map bs).length := by rw [List.length_map]; exact hlt
        have hgm : (ws.map bs)[k] = bs ws[k] := List.getElem_map _
        have hskip := Lib.hid (fun h => hat.up.skip hlm h)
        have hfull := Lib.hid (fun h1 h2 => hat.up.full hlm h1 h2)
        have hbad := Lib.hid (fun h1 h2 h3 => hat.up.bad hlm h1 h2 h3)
        have hchk := Lib.hid (fun ro h1 h2 h3 h4 => hat.up.chk (ro := ro) hlm h1 h2 h3 h4)
        have htw := Lib.hid (fun ro h1 h2 h3 h4 h5 => hat.up.twice (ro := ro) hlm h1 h2 h3 h4 h5)
        have hnx := Lib.hid (fun ro h1 h2 h3 h4 h5 => hat.up.next (ro := ro) hlm h1 h2 h3 h4 h5)
        rw [hgm] at hskip hfull hbad hchk htw hnx
        rw [List.length_map] at hfull hbad hchk htw hnx
        have hsk := hsz.out _ (List.getElem_mem hlt)
        obtain ⟨t, htd⟩ : ∃ t, t = ws[k] := ⟨_, rfl⟩
        rw [← htd] at c0 hskip hfull hbad hchk htw hnx hsk
        clear htd hgm hlm
        have hEw := Lib.hid (hx1.out.trans hat.ext)
        have hki : (k : Int) < ws.length := by omega
        by_cases h0 : bs t = []
        · obtain ⟨t1, t2⟩ := str_empty h0
          have hup2 := Lib.hid (hskip.out h0)
          replace hat := Lib.hid hat
          go_wp2
          go_roundw
          case rel => exact ⟨k + 1, ps, by go_num, hlt, hup2.out, hat.out.own, hat.out.fls, hat.out.ext⟩
          case measure => simp [intOf]; omega
        · obtain ⟨t1, t2⟩ := str_full h0
          by_cases hn : ps.length = 20
          · have hq := Lib.hid (hfull.out h0 hn)
            have hb20 : (ps.length == 20) = true := by simp [hn]
            replace hat := Lib.hid hat
            go_wp2
            go_ret3
            have := ParOut.err (n := k + 1) (hp0.out.trans hq.out) hEw.out
            simpa using this
          · have hb20 : (ps.length == 20) = false := by simp [hn]
            have hi20 : ¬ (ps.length : Int) = 20 := by omega
            have hrdps := Lib.hid hat.rd
            have htE := Lib.hid (ht.out.ext hEw.out)
            replace hat := Lib.hid hat
            go_wp2_with fail
            refine (c_parseLine t wr htE.out hsk).mono ?_
            rintro e w2 ⟨hx2, ⟨hln, rfl⟩ | ⟨r, fv, hln, rfl, hfo, hfi, hid⟩⟩
            · have hq := Lib.hid (hbad.out h0 hn hln)
              have hE2 := Lib.hid (hEw.out.trans hx2)
              replace hx2 := Lib.hid hx2
              unfold zeroR
              go_wp2
              go_ret3
              have := ParOut.err (n := k + 1) (hp0.out.trans hq.out) (hE2.out.alloc (.cells zeroR 26))
              simpa [zeroR] using this
            · obtain ⟨Af, cf, rfl⟩ := hfo.slice
              have hE2 := Lib.hid (hEw.out.trans hx2)
              have hX2 := Lib.hid hx2
              clear hx2
              have hrf2 := Lib.hid (hfo.rdF hfi)
              replace hfo := Lib.hid hfo
              replace hfi := Lib.hid hfi
              unfold roV
              go_wp2_with fail
              refine (c_check r (.slice Af r.fl.length cf) _ (hrf2.out.ext ((Ext.refl w2).alloc _)) hid).mono ?_
              rintro e w3 ⟨rfl, hx3⟩
              have hb3 := Lib.hid ((Blk.new w2 26 (roC r (.slice Af r.fl.length cf)).toArray).ext hx3)
              have hW3 := Lib.hid (((Ext.refl w2).alloc (.cells (roC r (.slice Af r.fl.length cf)).toArray 26)).trans hx3)
              clear hx3
              by_cases hck : check r = 0
              rotate_left
              · have hn0 : (check r == 0) = false := by simp; exact hck
                have hq := Lib.hid (hchk.out r h0 hn hln hck)
                replace hck := Lib.hid hck
                replace hln := Lib.hid hln
                go_wp2
                go_ret3
                have := ParOut.err (n := k + 1) (hp0.out.trans hq.out) (hE2.out.trans hW3.out)
                simpa using this
              · rw [hck]
                replace hck := Lib.hid hck
                replace hln := Lib.hid hln
                have q0 : w3.cell? ⟨w2.heap.size, 0, none⟩ = some (.string (ofB r.id)) := hb3.out.cell 0
                have hlt3 := hb3.out.lt
                go_wp2_with fail
                obtain ⟨hb, hhb⟩ : ∃ hb, hb = has (ps.map (·.1)) r.id := ⟨_, rfl⟩
                have hcon := c_hasId _ (ps.map (·.1)) (ofB r.id) w3 (hrdps.out.ext (hX2.out.trans hW3.out))
                rw [bs_ofB, ← hhb] at hcon
                refine hcon.mono ?_
                rintro e w4 ⟨rfl, hx4⟩
                clear hcon
                have hb4 := hb3.out.ext hx4
                have hW4 := Lib.hid (hX2.out.trans (hW3.out.trans hx4))
                have h24 := Lib.hid (hW3.out.trans hx4)
                clear q0 hlt3 hx4
                obtain ⟨q0, q1, q2, q3, q4, q5, q6⟩ := hb4.parts7
                have hlt4 := hb4.lt
                replace hb4 := Lib.hid hb4
                rcases hb with _ | _
                all_goals have hh := hhb.symm
                all_goals replace hhb := Lib.hid hhb
                rotate_left
                · have hq := Lib.hid (htw.out r h0 hn hln.out hck.out hh)
                  replace hh := Lib.hid hh
                  go_wp2
                  go_ret3
                  have := ParOut.err (n := k + 1) (hp0.out.trans hq.out) (hEw.out.trans hW4.out)
                  simpa using this
                · have hup2 := Lib.hid (hnx.out r h0 hn hln.out hck.out hh)
                  replace hh := Lib.hid hh
                  have hown4 := Lib.hid (hat.out.own.ext hW4.out)
                  have hB4 := Lib.hid (show w1.heap.size ≤ w4.heap.size from Nat.le_trans hat.out.ext.size hW4.out.size)
                  have hps1 : ps.length ≤ 1000000 := by omega
                  go_wp2_with (at_builtin; refine wpList_appE (α := Ro × Option Addr × Nat) rfl (.tmp 51) (.tmp 53) 31 rfl 26 7 w1.heap.size 80 _ rqC Tryz.underlying31 info_roll rfl (by decide) (by decide) rqC_len rqC_one _ ps (r, Af, cf) w4.heap.size 1 rfl (hown4.out.alloc _) rfl (Blk.cellsQ (Blk.at rfl)) hps1 (by have := hB4.out; simp; omega) ?_; intro A6 c6 w6 ho6 hg6 _)
                  go_roundw
                  case rel =>
                    refine ⟨k + 1, ps ++ [(r, Af, cf)], by go_num, hlt, by rw [List.map_append]; exact hup2.out, ho6, fun p hp => ?_, (hown4.out.alloc _).extGrown ((hat.out.ext.trans hW4.out).alloc _) (Nat.le_refl _) hg6⟩
                    rcases List.mem_append.1 hp with hp | hp
                    · have h1 := (hat.out.fls p hp).1.ext hW4.out
                      exact ⟨(h1.alloc _).kept hg6 (rows_ne h1 hown4.out (by decide)), (hat.out.fls p hp).2⟩
                    · rw [List.mem_singleton] at hp
                      subst hp
                      have h1 := (hfo.out.mono (Nat.le_trans (Nat.le_refl _) hat.out.ext.size)).ext h24.out
                      exact ⟨(h1.alloc _).kept hg6 (rows_ne h1 hown4.out (by decide)), hfi.out⟩
                  case measure => simp [intOf]; omega
      · have hd := Lib.hid (hat.up.done (by rw [List.length_map]; exact hlt))
        have hrdl := Lib.hid hat.rd
        have hEw := Lib.hid (hx1.out.trans hat.ext)
        replace hat := Lib.hid hat
        go_wp2
        go_ret3
        rw [hp0.out, hd.out]
        exact ⟨_, rfl, hrdl.out, hEw.out⟩

end Go.Proofs.YtphaigncbenmmaaGreatDoor
