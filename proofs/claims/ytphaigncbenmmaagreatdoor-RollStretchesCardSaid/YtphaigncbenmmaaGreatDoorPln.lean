/- parseLine of the program. -/
import Derived.Test.YtphaigncbenmmaaGreatDoorNms
import Derived.Test.YtphaigncbenmmaaGreatDoorLin
import Derived.Test.YtphaigncbenmmaaGreatDoorApp
import Derived.Laws.ResultCell
import Derived.Deep.RegionHeld3
import Derived.Deep.DrawnRows
namespace Go.Proofs.YtphaigncbenmmaaGreatDoor
open Go Go.RowKit

theorem RdS.sub {w : World} {b o n c : Nat} {ws : List ByteArray} (h : RdS w (.slice (some ⟨b, o, none⟩) n c) ws) (i j : Nat) (hij : i ≤ j) (hj : j ≤ ws.length) : RdS w (.slice (some ⟨b, o + i, none⟩) (j - i) (c - i)) ((ws.take j).drop i) := by
  obtain ⟨A, cap, e, h1, h2, h3⟩ := h
  injection e with e1 e2 e3
  subst e3
  have hl : ((ws.take j).drop i).length = j - i := by rw [List.length_drop, List.length_take]; omega
  refine ⟨_, c - i, by rw [hl], by omega, by omega, fun k hk => ⟨b, o + i, rfl, ?_⟩⟩
  rw [hl] at hk
  obtain ⟨b', o', e4, hc⟩ := h3 (i + k) (by omega)
  rw [← e1] at e4
  injection e4 with e4
  injection e4 with e5 e6 _
  subst e5 e6
  rw [List.getElem_drop, List.getElem_take, Nat.add_assoc]; exact hc

theorem RdS.at {w : World} {b o n c : Nat} {ws : List ByteArray} (h : RdS w (.slice (some ⟨b, o, none⟩) n c) ws) (k : Nat) (hk : k < ws.length) : w.cell? ⟨b, o + k, none⟩ = some (.string ws[k]) := by
  obtain ⟨A, cap, e, h1, h2, h3⟩ := h
  injection e with e1 e2 e3
  obtain ⟨b', o', e4, hc⟩ := h3 k hk
  rw [← e1] at e4
  injection e4 with e4
  injection e4 with e5 e6 _
  subst e5 e6
  exact hc
theorem RdS.cap {w : World} {A : Option Addr} {n c : Nat} {ws : List ByteArray} (h : RdS w (.slice A n c) ws) : ws.length ≤ c ∧ c ≤ 9223372036854775807 := by
  obtain ⟨A', cap, e, h1, h2, h3⟩ := h
  injection e with e1 e2 e3
  unfold maxLen at h2
  omega

def zeroR : Array Value := #[.string ⟨#[]⟩, .int .i64 0, .int .i64 0, .int .i64 0, .int .i64 0, .int .i64 0, .slice none 0 0]

/-- how parseLine ends -/
def LineOut (R : List B) (w : World) (e : Ending) (w' : World) : Prop :=
  Ext w w' ∧ ((lineW R = none ∧ e = .returned (.tuple #[.agg zeroR, .bool false])) ∨
    (∃ r fv, lineW R = some r ∧ e = .returned (.tuple #[roV r fv, .bool true]) ∧ OwnE 47 4 flC w.heap.size w' fv r.fl ∧ (∀ f ∈ r.fl, FlI f) ∧ r.id.length ≤ 30000))

theorem any_empty (ws : List ByteArray) : (ws.any fun y => decide (y = ⟨#[]⟩)) = true → [] ∈ ws.map bs := by
  intro h
  obtain ⟨y, hy, h⟩ := List.any_eq_true.1 h
  have := of_decide_eq_true h
  subst this
  exact List.mem_map.2 ⟨_, hy, rfl⟩

theorem cuts_short {d : UInt8} : ∀ (s : B), ∀ w ∈ cuts d s, w.length ≤ s.length
  | [], w, h => by
    rw [cuts_nil] at h
    rcases List.mem_cons.1 h with rfl | h
    · simp
    · cases h
  | c :: t, w, h => by
    by_cases hc : c = d
    · subst hc
      rw [cuts_eq] at h
      rcases List.mem_cons.1 h with rfl | h
      · simp
      · have := cuts_short t w h
        simp; omega
    · rw [cuts_ne hc] at h
      obtain ⟨a, r, e⟩ := cuts_cons d t
      rw [e] at h
      rcases List.mem_cons.1 h with rfl | h
      · have := cuts_short t a (by rw [e]; simp)
        simp; omega
      · have := cuts_short t w (by rw [e]; exact List.mem_cons_of_mem _ h)
        simp; omega

theorem Blk.seven {w : World} {g : Nat} {t : TypeId} {y0 y1 y2 y3 y4 y5 y6 : Value} (h : Blk w g t #[y0, y1, y2, y3, y4, y5, y6]) (a b c d e f k : Value) :
    Blk (((((((w.setCell ⟨g, 0, none⟩ a).setCell ⟨g, 1, none⟩ b).setCell ⟨g, 2, none⟩ c).setCell ⟨g, 3, none⟩ d).setCell ⟨g, 4, none⟩ e).setCell ⟨g, 5, none⟩ f).setCell ⟨g, 6, none⟩ k) g t #[a, b, c, d, e, f, k] := by
  have k0 : Blk _ g t #[a, y1, y2, y3, y4, y5, y6] := h.set_ 0 a
  have k1 : Blk _ g t #[a, b, y2, y3, y4, y5, y6] := k0.set_ 1 b
  have k2 : Blk _ g t #[a, b, c, y3, y4, y5, y6] := k1.set_ 2 c
  have k3 : Blk _ g t #[a, b, c, d, y4, y5, y6] := k2.set_ 3 d
  have k4 : Blk _ g t #[a, b, c, d, e, y5, y6] := k3.set_ 4 e
  have k5 : Blk _ g t #[a, b, c, d, e, f, y6] := k4.set_ 5 f
  have k6 : Blk _ g t #[a, b, c, d, e, f, k] := k5.set_ 6 k
  exact k6
theorem ext_seven {w w' : World} {g : Nat} (h : Ext w w') (hg : w.heap.size ≤ g) (a b c d e f k : Value) :
    Ext w (((((((w'.setCell ⟨g, 0, none⟩ a).setCell ⟨g, 1, none⟩ b).setCell ⟨g, 2, none⟩ c).setCell ⟨g, 3, none⟩ d).setCell ⟨g, 4, none⟩ e).setCell ⟨g, 5, none⟩ f).setCell ⟨g, 6, none⟩ k) :=
  ((((((h.setCell (p := ⟨g, 0, none⟩) hg a).setCell (p := ⟨g, 1, none⟩) hg b).setCell (p := ⟨g, 2, none⟩) hg c).setCell (p := ⟨g, 3, none⟩) hg d).setCell (p := ⟨g, 4, none⟩) hg e).setCell (p := ⟨g, 5, none⟩) hg f).setCell (p := ⟨g, 6, none⟩) hg k

theorem grown7 {w : World} {g : Nat} (a b c d e f k : Value) : w.grownBy (((((((w.setCell ⟨g, 0, none⟩ a).setCell ⟨g, 1, none⟩ b).setCell ⟨g, 2, none⟩ c).setCell ⟨g, 3, none⟩ d).setCell ⟨g, 4, none⟩ e).setCell ⟨g, 5, none⟩ f).setCell ⟨g, 6, none⟩ k) (some g) :=
  (((((((grown_set g 0 a).trans (grown_set g 1 b)).trans (grown_set g 2 c)).trans (grown_set g 3 d)).trans (grown_set g 4 e)).trans (grown_set g 5 f)).trans (grown_set g 6 k))

/-- the end of a function whose results are a roll in a cell and a bool in a slot -/
theorem line_end {fn : Func} {p u : Tmp} (hres : fn.results = #[.cell p 26, .tmp u]) {R : Ending → World → Prop} {ex : Exit} (hex : ex = .ret ∨ ex = .normal) {a : Act} {w' : World} {y0 y1 y2 y3 y4 y5 y6 : Value} {c : Bool} {g : Nat} (hd : a.defers = []) (h2 : a.tmps.getD p undef = .pointer (some ⟨g, 0, none⟩))
    (h3 : a.tmps.getD u undef = .bool c) (hb : Blk w' g 26 #[y0, y1, y2, y3, y4, y5, y6]) (h : R (.returned (.tuple #[.agg #[y0, y1, y2, y3, y4, y5, y6], .bool c])) w') :
    bodyPost Tryz.prog fn R ex a w' := by
  obtain ⟨q0, q1, q2, q3, q4, q5, q6⟩ := hb.parts7
  have key : bodyPost Tryz.prog fn R .ret a w' := by
    refine ⟨hd, .tuple #[.agg #[y0, y1, y2, y3, y4, y5, y6], .bool c], ?_, h⟩
    rw [results_cell_tmp hres, h2, h3]
    go_simp
  rcases hex with rfl | rfl
  · exact key
  · exact key

theorem word_eq {x : ByteArray} {l : List UInt8} (h : (x.toList == l) = true) : bs x = l := by
  rw [ByteArray.toList_eq] at h; exact eq_of_beq h
theorem word_ne {x : ByteArray} {l : List UInt8} (h : (x.toList == l) = false) : bs x ≠ l := by
  rw [ByteArray.toList_eq] at h
  intro e
  rw [beq_eq_false_iff_ne] at h
  exact h e

/-- what the loop of parseLine keeps: block P (the first behind the world w3) holds the roll, its flaws so far in a row of the call's own behind it -/
structure LineUp (R7 : List B) (w3 : World) (P : Nat) (y0 y1 y2 y3 y4 y5 : Value) (wr : World) (v : Value) (rest : List ByteArray) (done : List Fl) (fv : Value) : Prop where
  rd : RdS w3 v rest
  up : FlUp R7 (rest.map bs) done
  m5 : rest.length % 5 = 0
  few : rest.length + 5 * done.length ≤ 30001
  sz : ∀ x ∈ rest, x.size ≤ 30000
  i64 : ∀ f ∈ done, FlI f
  blk : Blk wr P 26 #[y0, y1, y2, y3, y4, y5, fv]
  own : OwnE 47 4 flC P wr fv done
  ext : Ext w3 wr
theorem OwnE.mono {α : Type} {E : TypeId} {k B B' : Nat} {enc : α → List Value} {w : World} {v : Value} {l : List α} (h : OwnE E k enc B w v l) (hB : B' ≤ B) : OwnE E k enc B' w v l := by
  refine ⟨h.1, ?_⟩
  rcases h.2 with h | ⟨g, cap, cur, h1, h2, h3⟩
  · exact .inl h
  · exact .inr ⟨g, cap, cur, h1, Nat.le_trans hB h2, h3⟩

theorem RdS.nilAny (w : World) (A : Option Addr) (c : Nat) (h : c ≤ maxLen) : RdS w (.slice A 0 c) [] := ⟨A, c, rfl, by simp, h, fun j h => absurd h (by simp)⟩
theorem RdS.slice {w : World} {v : Value} {ws : List ByteArray} (h : RdS w v ws) : ∃ A c, v = .slice A ws.length c := by
  obtain ⟨A, c, e, _⟩ := h; exact ⟨A, c, e⟩
theorem RdS.base {w : World} {A : Option Addr} {n c : Nat} {ws : List ByteArray} (h : RdS w (.slice A n c) ws) (h0 : 0 < ws.length) : ∃ b o, A = some ⟨b, o, none⟩ := by
  obtain ⟨A', c', e, _, _, h3⟩ := h
  injection e with e1 _ _
  obtain ⟨b, o, e2, _⟩ := h3 0 h0
  exact ⟨b, o, e1.trans e2⟩
theorem RdS.from {w : World} {b o n c : Nat} {ws : List ByteArray} (h : RdS w (.slice (some ⟨b, o, none⟩) n c) ws) (i : Nat) (hi : i ≤ ws.length) : RdS w (.slice (some ⟨b, o + i, none⟩) (ws.length - i) (c - i)) (ws.drop i) := by
  have := h.sub i ws.length hi (Nat.le_refl _)
  rw [List.take_of_length_le (Nat.le_refl _)] at this
  exact this

def sliceLen : Value → Nat
  | .slice _ n _ => n
  | _ => 0

theorem i18 {n : Int} (h : -1000000000000000000 < n ∧ n < 1000000000000000000) : I64 n := ⟨by omega, by omega⟩

set_option maxHeartbeats 8000000 in
theorem c_parseLine (s : ByteArray) (w : World) (ht : Tab w) (hs : s.size ≤ 30000) : Calls Tryz.prog 28 #[.string s] w (LineOut (cuts 32 (bs s)) w) := by
  obtain ⟨R, hR⟩ : ∃ R, R = cuts 32 (bs s) := ⟨_, rfl⟩
  rw [← hR]
  go_enter Tryz.func28, Tryz.ntmps28
  go_wp2_with fail
  refine (l_split 32 s _ (ht.ext ((Ext.refl w).alloc _)) (by omega)).mono ?_
  rintro e w1 ⟨v, ws, rfl, hrd, hws, hx1⟩
  rw [← hR] at hws
  have hlen : R.length = ws.length := by rw [← hws, List.length_map]
  have hpos : 0 < ws.length := by
    rw [← hlen, hR]
    have := cuts_ne_nil 32 (bs s)
    rcases h : cuts 32 (bs s) with _ | _
    · exact absurd h this
    · simp
  have hl30 : ws.length ≤ 30001 := by
    rw [← hlen, hR, cuts_length]
    have := List.count_le_length (a := (32 : UInt8)) (l := bs s)
    rw [bs_len] at this
    omega
  have hsz : ∀ x ∈ ws, x.size ≤ 30000 := by
    intro x hx
    have h1 : bs x ∈ cuts 32 (bs s) := by rw [← hR, ← hws]; exact List.mem_map.2 ⟨x, hx, rfl⟩
    have := cuts_short _ _ h1
    rw [bs_len, bs_len] at this
    omega
  obtain ⟨A, c, rfl⟩ : ∃ A c, v = .slice A ws.length c := by
    obtain ⟨A, c, e, _⟩ := hrd; exact ⟨A, c, e⟩
  obtain ⟨b, o, rfl⟩ : ∃ b o, A = some ⟨b, o, none⟩ := by
    obtain ⟨A', c', e, _, _, h3⟩ := hrd
    injection e with e1 _ _
    obtain ⟨b, o, e2, _⟩ := h3 0 hpos
    exact ⟨b, o, e1.trans e2⟩
  obtain ⟨hcap, hcmax⟩ := hrd.cap
  have hE1 := Lib.hid (((Ext.refl w).alloc _).trans hx1)
  have hbq := Lib.hid (show Blk w1 w.heap.size 26 zeroR from (Blk.new w 26 zeroR).ext hx1)
  replace hlen := Lib.hid hlen
  replace hws := Lib.hid hws
  clear hR
  replace hx1 := Lib.hid hx1
  replace hsz := Lib.hid hsz
  have hw0 : w1.cell? ⟨b, o, none⟩ = some (.string (ws[0]'hpos)) := hrd.at 0 hpos
  replace hrd := Lib.hid hrd
  go_wp2_with fail
  refine (l_contains _ ws ⟨#[]⟩ w1 hrd.out hpos).mono ?_
  rintro e w2 ⟨rfl, rfl⟩
  obtain ⟨q0, q1, q2, q3, q4, q5, q6⟩ := hbq.out.parts7
  have hlt := hbq.out.lt
  have f0 := hbq.out.frozen 0
  have f1 := hbq.out.frozen 1
  have f2 := hbq.out.frozen 2
  have f3 := hbq.out.frozen 3
  have f4 := hbq.out.frozen 4
  have f5 := hbq.out.frozen 5
  have f6 := hbq.out.frozen 6
  have fin : lineW R = none → ∀ w', Ext w w' → LineOut R w (.returned (.tuple #[.agg zeroR, .bool false])) w' := fun h w' hx => ⟨hx, .inl ⟨h, rfl⟩⟩
  replace fin := Lib.hid fin
  cases hany : (ws.any fun y => decide (y = ⟨#[]⟩)) with
  | true =>
    have hno := Lib.hid (show lineW R = none from lineW_empty (by rw [← hws.out]; exact any_empty ws hany))
    go_wp2
    refine line_end rfl (.inl rfl) rfl rfl rfl (hbq.out.seven _ _ _ _ _ _ _) (fin.out hno.out _ (ext_seven hE1.out (Nat.le_refl _) _ _ _ _ _ _ _))
  | false =>
    replace hany := Lib.hid hany
    rcases hk : ((ws[0]'hpos).toList == [114, 111, 108, 108]) with _ | _
    · have hno := Lib.hid (show lineW R = none from lineK_no (by rw [hlen.out]; exact hpos) (by
        have := word_ne hk
        intro e
        apply this
        rw [← show R[0]'(by rw [hlen.out]; exact hpos) = bs (ws[0]'hpos) by simp [← hws.out]]
        exact e))
      go_wp2
      refine line_end rfl (.inl rfl) rfl rfl rfl (hbq.out.seven _ _ _ _ _ _ _) (fin.out hno.out _ (ext_seven hE1.out (Nat.le_refl _) _ _ _ _ _ _ _))
    · have hk0 := Lib.hid (word_eq hk)
      by_cases h7 : (ws.length : Int) < 7
      · have hno := Lib.hid (show lineW R = none from lineW_len (.inl (by rw [hlen.out]; omega)))
        go_wp2
        refine line_end rfl (.inl rfl) rfl rfl rfl (hbq.out.seven _ _ _ _ _ _ _) (fin.out hno.out _ (ext_seven hE1.out (Nat.le_refl _) _ _ _ _ _ _ _))
      · have e5 := Lib.hid (show ((ws.length : Int) - 7).tmod 5 = ((ws.length : Int) - 7) % 5 from Int.tmod_eq_emod_of_nonneg (by omega))
        by_cases h5 : ((ws.length : Int) - 7).tmod 5 = 0
        rotate_left
        · have hno := Lib.hid (show lineW R = none from lineW_len (.inr (by rw [hlen.out]; rw [e5.out] at h5; omega)))
          have h5b : (((ws.length : Int) - 7) % 5 != 0) = true := by rw [← e5.out]; exact bne_iff_ne.2 h5
          go_wp2
          refine line_end rfl (.inl rfl) rfl rfl rfl (hbq.out.seven _ _ _ _ _ _ _) (fin.out hno.out _ (ext_seven hE1.out (Nat.le_refl _) _ _ _ _ _ _ _))
        · have h7' : 7 ≤ ws.length := by omega
          have hc7 : (7 : Int) ≤ c := by omega
          have hc2 : ¬ c = 2 := by omega
          have hsub := Lib.hid (hrd.out.sub 2 7 (by omega) h7')
          have hsl := Lib.hid (show ((ws.take 7).drop 2).length = 5 by rw [List.length_drop, List.length_take]; omega)
          have h1l : 1 < ws.length := by omega
          have hw1 : w2.cell? ⟨b, o + 1, none⟩ = some (.string (ws[1]'h1l)) := hrd.out.at 1 h1l
          have hR7 := Lib.hid (show 7 ≤ R.length by rw [hlen.out]; exact h7')
          have hm5 := Lib.hid (show ((ws.length : Int) - 7) % 5 = 0 by rw [← e5.out]; exact h5)
          have hmap := Lib.hid (show ((ws.take 7).drop 2).map bs = (R.take 7).drop 2 by rw [← hws.out, List.map_drop, List.map_take])
          go_wp2_with fail
          refine (c_numbers _ _ w2 hsub.out (fun x hx => hsz.out x (List.mem_of_mem_take (List.mem_of_mem_drop hx))) (by rw [hsl.out]; omega)).mono ?_
          rintro e w3 ⟨hx3, ⟨hno, rfl⟩ | ⟨l, nv, hnu, rfl, hown⟩⟩
          · have hno := Lib.hid (show lineW R = none from lineN_no hR7.out (by rw [← hmap.out]; exact hno))
            have hb3 := Lib.hid (hbq.out.ext hx3)
            have hE3 := Lib.hid (hE1.out.trans hx3)
            replace hx3 := Lib.hid hx3
            clear q0 q1 q2 q3 q4 q5 q6 f0 f1 f2 f3 f4 f5 f6 hlt
            obtain ⟨q0, q1, q2, q3, q4, q5, q6⟩ := hb3.out.parts7
            have hlt := hb3.out.lt
            have f0 := hb3.out.frozen 0
            have f1 := hb3.out.frozen 1
            have f2 := hb3.out.frozen 2
            have f3 := hb3.out.frozen 3
            have f4 := hb3.out.frozen 4
            have f5 := hb3.out.frozen 5
            have f6 := hb3.out.frozen 6
            go_wp2
            refine line_end rfl (.inl rfl) rfl rfl rfl (hb3.out.seven _ _ _ _ _ _ _) (fin.out hno.out _ (ext_seven hE3.out (Nat.le_refl _) _ _ _ _ _ _ _))
          · obtain ⟨n0, n1, n2, n3, n4, rfl⟩ := five_nums hnu (by rw [List.length_map, hsl.out])
            have hb3 := Lib.hid (hbq.out.ext hx3)
            have hE3 := Lib.hid (hE1.out.trans hx3)
            have hrd3 := Lib.hid (hrd.out.ext hx3)
            replace hw1 := hx3.cell hw1
            replace hnu := Lib.hid hnu
            replace hx3 := Lib.hid hx3
            clear q0 q1 q2 q3 q4 q5 q6 f0 f1 f2 f3 f4 f5 f6 hlt hw0
            have hi1 := Lib.hid (show bs (ws[1]'h1l) ≠ [] by
              intro e
              have : (ws.any fun y => decide (y = ⟨#[]⟩)) = true := List.any_eq_true.2 ⟨_, List.getElem_mem h1l, decide_eq_true (bs_inj e)⟩
              rw [hany.out] at this
              cases this)
            obtain ⟨A2, cap2, e2, hcap2, hmax2, hcs⟩ := hown.rdI
            subst e2
            obtain ⟨g, o', rfl, c0⟩ := hcs 0 (by simp)
            have c0 : w3.cell? ⟨g, o', none⟩ = some (.int .i64 n0) := c0
            have c1 : w3.cell? ⟨g, o' + 1, none⟩ = some (.int .i64 n1) := by
              obtain ⟨_, _, e, hc⟩ := hcs 1 (by simp)
              cases e; exact hc
            have c2 : w3.cell? ⟨g, o' + 2, none⟩ = some (.int .i64 n2) := by
              obtain ⟨_, _, e, hc⟩ := hcs 2 (by simp)
              cases e; exact hc
            have c3 : w3.cell? ⟨g, o' + 3, none⟩ = some (.int .i64 n3) := by
              obtain ⟨_, _, e, hc⟩ := hcs 3 (by simp)
              cases e; exact hc
            have c4 : w3.cell? ⟨g, o' + 4, none⟩ = some (.int .i64 n4) := by
              obtain ⟨_, _, e, hc⟩ := hcs 4 (by simp)
              cases e; exact hc
            clear hcs hcap2 hmax2
            have hlg := World.block_lt_of_cell? _ _ c0
            have hlb := World.block_lt_of_cell? _ _ hw1
            replace hown := Lib.hid hown
            have h1i : (1 : Int) < ws.length := by omega
            have hcz : 7 ≤ c := by omega
            go_wp2
            go_region_held3 (fun w' => ∀ b o, b < w3.heap.size → w'.cell? ⟨b, o, none⟩ = w3.cell? ⟨b, o, none⟩)
              (first
                | exact (fun _ _ _ => rfl)
                | exact (fun b o hb => alloc_keep hb o)
                | assumption)
              (first | fail)
            obtain ⟨w4, hw4⟩ : ∃ w4, w4 = (w3.alloc (.cells #[.string (ws[1]'h1l), .int .i64 n1, .int .i64 n0, .int .i64 n2, .int .i64 n3, .int .i64 n4, .slice none 0 0] 26)).drew := ⟨_, rfl⟩
            have hX4 := Lib.hid (show Ext w3 w4 from hw4 ▸ ((Ext.refl w3).alloc _).drew)
            have hbp := Lib.hid (show Blk w4 w3.heap.size 26 #[.string (ws[1]'h1l), .int .i64 n1, .int .i64 n0, .int .i64 n2, .int .i64 n3, .int .i64 n4, .slice none 0 0] from hw4 ▸ (Blk.new w3 26 _).drew)
            rw [← hw4]
            clear hw4 c0 c1 c2 c3 c4 hlg hlb hw1 h1i hown
            have hws3 : w.heap.size ≤ w3.heap.size := hE3.out.size
            have hq3 : w.heap.size < w3.heap.size := hb3.out.lt
            obtain ⟨P, hP⟩ : ∃ P, P = w3.heap.size := ⟨_, rfl⟩
            rw [← hP] at hbp hws3 hq3 ⊢
            replace hP := Lib.hid hP
            have hfl7 := Lib.hid (lineN_yes hR7.out (Eq.trans (by simp [← hws.out]) hk0.out) (by have := hi1.out; simpa [← hws.out] using this) (by rw [← hmap.out]; exact hnu.out))
            have hPs : w3.heap.size = P := hP.out.symm
            replace hPs := Lib.hid hPs
            rcases Decidable.em (c = 7) with hc77 | hc77
            focus
              have hl7 : ws.length = 7 := by omega
              go_wp2
              go_loopw [8] (fun v wr => (∃ A5 c5, v = .slice A5 0 c5) ∧ wr = w4) (fun _ _ => 0)
              case atStart => exact ⟨⟨_, _, by first | rfl | simp [hl7] | simp⟩, rfl⟩
              case round =>
                obtain ⟨⟨A5, c5, rfl⟩, rfl⟩ := hrel
                have hrz := hb3.out.ext hX4.out
                obtain ⟨r0, r1, r2, r3, r4, r5, r6⟩ := hbp.out.parts7
                obtain ⟨s0, s1, s2, s3, s4, s5, s6⟩ := hrz.parts7
                have g0 := hrz.frozen 0
                have g1 := hrz.frozen 1
                have g2 := hrz.frozen 2
                have g3 := hrz.frozen 3
                have g4 := hrz.frozen 4
                have g5 := hrz.frozen 5
                have g6 := hrz.frozen 6
                have hltP := hbp.out.lt
                have hltq := hrz.lt
                replace hrz := Lib.hid hrz
                have hE4 := Lib.hid (hE3.out.trans hX4.out)
                have hff : flawsOf (R.drop 7) = some [] := by
                  rw [List.drop_of_length_le (by rw [hlen.out]; omega)]; rfl
                replace hff := Lib.hid hff
                go_wp2
                refine line_end rfl (by first | exact .inl rfl | exact .inr rfl) rfl rfl rfl (hrz.out.seven _ _ _ _ _ _ _) ⟨ext_seven hE4.out (Nat.le_refl _) _ _ _ _ _ _ _, .inr ⟨⟨bs (ws[1]'h1l), n1, n0, n2, n3, n4, []⟩, .slice none 0 0, ?_, ?_, OwnE.nil _ _ _ _ _, fun _ h => (by cases h), ?_⟩⟩
                · rw [hfl7.out, hff.out]
                  simp [← hws.out]
                · unfold roV; rw [ofB_bs]
                · rw [bs_len]; exact hsz.out _ (List.getElem_mem h1l)
            focus
              go_wp2
              go_loopw [8] (fun v wr => ∃ rest done fv, LineUp (R.drop 7) w3 P (.string (ws[1]'h1l)) (.int .i64 n1) (.int .i64 n0) (.int .i64 n2) (.int .i64 n3) (.int .i64 n4) wr v rest done fv) (fun v _ => sliceLen v)
              case atStart =>
                have h7d : R.drop 7 = (ws.drop 7).map bs := by rw [← hws.out, List.map_drop]
                have hm := hm5.out
                refine ⟨ws.drop 7, [], .slice none 0 0, ?_, ?_, by rw [List.length_drop]; omega, by rw [List.length_drop]; simp; omega, fun x hx => hsz.out x (List.mem_of_mem_drop hx), fun _ h => (by cases h), hbp.out, OwnE.nil _ _ _ _ _, hX4.out⟩
                · exact hrd3.out.from 7 h7'
                · rw [h7d]; exact FlUp.start _
              case round =>
                obtain ⟨rest, done, fv, hup⟩ := hrel
                obtain ⟨A5, c5, rfl⟩ := hup.rd.slice
                by_cases hz : rest.length = 0
                · have e0 : rest = [] := List.length_eq_zero_iff.1 hz
                  subst e0
                  have hff := Lib.hid hup.up.fin
                  obtain ⟨Af, cf, rfl⟩ := hup.own.slice
                  have hrz := hb3.out.ext hup.ext
                  obtain ⟨r0, r1, r2, r3, r4, r5, r6⟩ := hup.blk.parts7
                  obtain ⟨s0, s1, s2, s3, s4, s5, s6⟩ := hrz.parts7
                  have g0 := hrz.frozen 0
                  have g1 := hrz.frozen 1
                  have g2 := hrz.frozen 2
                  have g3 := hrz.frozen 3
                  have g4 := hrz.frozen 4
                  have g5 := hrz.frozen 5
                  have g6 := hrz.frozen 6
                  have hltP := hup.blk.lt
                  have hltq := hrz.lt
                  replace hrz := Lib.hid hrz
                  replace hup := Lib.hid hup
                  go_wp2
                  refine line_end rfl (by first | exact .inl rfl | exact .inr rfl) rfl rfl rfl (hrz.out.seven _ _ _ _ _ _ _) ⟨ext_seven (hE3.out.trans hup.out.ext) (Nat.le_refl _) _ _ _ _ _ _ _, .inr ⟨⟨bs (ws[1]'h1l), n1, n0, n2, n3, n4, done⟩, .slice Af done.length cf, ?_, ?_, ?_, hup.out.i64, ?_⟩⟩
                  · rw [hfl7.out, hff.out]
                    simp [← hws.out]
                  · unfold roV; rw [ofB_bs]
                  · exact (hup.out.own.kept (grown7 _ _ _ _ _ _ _) (.inr (row_ne hup.out.own hrz.out (by decide)))).mono hws3
                  · rw [bs_len]; exact hsz.out _ (List.getElem_mem h1l)
                · have h5l : 5 ≤ rest.length := by have := hup.m5; omega
                  have h5m : 5 ≤ (rest.map bs).length := by rw [List.length_map]; exact h5l
                  obtain ⟨b5, o5, rfl⟩ := hup.rd.base (by omega)
                  obtain ⟨hc5, hc5m⟩ := hup.rd.cap
                  have hc5i : (5 : Int) ≤ c5 := by omega
                  have hc51 : ¬ c5 = 1 := by omega
                  have hsub5 := Lib.hid (hup.rd.sub 1 5 (by omega) h5l)
                  have hsl5 := Lib.hid (show ((rest.take 5).drop 1).length = 4 by rw [List.length_drop, List.length_take]; omega)
                  have hmap5 := Lib.hid (show ((rest.take 5).drop 1).map bs = ((rest.map bs).take 5).drop 1 by rw [List.map_drop, List.map_take])
                  have h0l : 0 < rest.length := by omega
                  have hz0 : (0 : Int) < rest.length := by omega
                  obtain ⟨Af, cf, rfl⟩ := hup.own.slice
                  have hno' := Lib.hid (show flawsOf (R.drop 7) = none → lineW R = none from fun h => by
                    rw [hfl7.out, h]; rfl)
                  have hsub5 := Lib.hid (hsub5.out.ext hup.ext)
                  replace hup := Lib.hid hup
                  go_wp2_with fail
                  refine (c_numbers _ _ wr hsub5.out (fun x hx => hup.out.sz x (List.mem_of_mem_take (List.mem_of_mem_drop hx))) (by rw [hsl5.out]; omega)).mono ?_
                  rintro e w5 ⟨hx5, ⟨hnn, rfl⟩ | ⟨l5, nv5, hnu5, rfl, hown5⟩⟩
                  · have hno := Lib.hid (hno'.out (hup.out.up.noN h5m (by rw [← hmap5.out]; exact hnn)))
                    have hr5 := (hb3.out.ext hup.out.ext).ext hx5
                    obtain ⟨s0, s1, s2, s3, s4, s5, s6⟩ := hr5.parts7
                    have g0 := hr5.frozen 0
                    have g1 := hr5.frozen 1
                    have g2 := hr5.frozen 2
                    have g3 := hr5.frozen 3
                    have g4 := hr5.frozen 4
                    have g5 := hr5.frozen 5
                    have g6 := hr5.frozen 6
                    have hltq := hr5.lt
                    have hE35 := Lib.hid (hup.out.ext.trans hx5)
                    have hE5 := Lib.hid (hE3.out.trans hE35.out)
                    replace hr5 := Lib.hid hr5
                    replace hx5 := Lib.hid hx5
                    go_wp2
                    refine line_end rfl (.inl rfl) rfl rfl rfl (hr5.out.seven _ _ _ _ _ _ _) (fin.out hno.out _ (ext_seven hE5.out (Nat.le_refl _) _ _ _ _ _ _ _))
                  · obtain ⟨x0, x1, x2, x3, rfl⟩ := four_nums hnu5 (by rw [List.length_map, hsl5.out])
                    have hsm := Lib.hid (nums18_small hnu5)
                    have hr5 := (hb3.out.ext hup.out.ext).ext hx5
                    have hb5 := hup.out.blk.ext hx5
                    have ho5 := Lib.hid (hup.out.own.ext hx5)
                    have hE35 := Lib.hid (hup.out.ext.trans hx5)
                    have hE5 := Lib.hid (hE3.out.trans hE35.out)
                    have hw0 : w5.cell? ⟨b5, o5, none⟩ = some (.string (rest[0]'h0l)) := hE35.out.cell (hup.out.rd.at 0 h0l)
                    have hlb := World.block_lt_of_cell? _ _ hw0
                    rcases hkf : ((rest[0]'h0l).toList == [102, 108, 97, 119]) with _ | _
                    · have hno := Lib.hid (hno'.out (hup.out.up.noK h5m (by
                        have := word_ne hkf
                        intro e
                        apply this
                        rw [List.getElem_map] at e
                        exact e)))
                      obtain ⟨s0, s1, s2, s3, s4, s5, s6⟩ := hr5.parts7
                      have g0 := hr5.frozen 0
                      have g1 := hr5.frozen 1
                      have g2 := hr5.frozen 2
                      have g3 := hr5.frozen 3
                      have g4 := hr5.frozen 4
                      have g5 := hr5.frozen 5
                      have g6 := hr5.frozen 6
                      have hltq := hr5.lt
                      replace hr5 := Lib.hid hr5
                      replace hb5 := Lib.hid hb5
                      replace hx5 := Lib.hid hx5
                      replace hown5 := Lib.hid hown5
                      replace hnu5 := Lib.hid hnu5
                      go_wp2
                      refine line_end rfl (.inl rfl) rfl rfl rfl (hr5.out.seven _ _ _ _ _ _ _) (fin.out hno.out _ (ext_seven hE5.out (Nat.le_refl _) _ _ _ _ _ _ _))
                    · have hk5 := Lib.hid (word_eq hkf)
                      obtain ⟨A6, cap6, e6, hcap6, hmax6, hcs⟩ := hown5.rdI
                      subst e6
                      obtain ⟨g6, o6, rfl, c0⟩ := hcs 0 (by simp)
                      have c0 : w5.cell? ⟨g6, o6, none⟩ = some (.int .i64 x0) := c0
                      have c1 : w5.cell? ⟨g6, o6 + 1, none⟩ = some (.int .i64 x1) := by
                        obtain ⟨_, _, e, hc⟩ := hcs 1 (by simp)
                        cases e; exact hc
                      have c2 : w5.cell? ⟨g6, o6 + 2, none⟩ = some (.int .i64 x2) := by
                        obtain ⟨_, _, e, hc⟩ := hcs 2 (by simp)
                        cases e; exact hc
                      have c3 : w5.cell? ⟨g6, o6 + 3, none⟩ = some (.int .i64 x3) := by
                        obtain ⟨_, _, e, hc⟩ := hcs 3 (by simp)
                        cases e; exact hc
                      clear hcs hcap6 hmax6
                      have hlg := World.block_lt_of_cell? _ _ c0
                      have q9 : w5.cell? ⟨P, 6, none⟩ = some (.slice Af done.length cf) := hb5.cell 6
                      have f9 := hb5.frozen 6
                      have hlt9 := hb5.lt
                      have hdn : done.length ≤ 1000000 := by have := hup.out.few; omega
                      have hBw := Lib.hid (show P ≤ w5.heap.size by rw [← hPs.out]; exact hE35.out.size)
                      replace hr5 := Lib.hid hr5
                      replace hb5 := Lib.hid hb5
                      replace hx5 := Lib.hid hx5
                      replace hown5 := Lib.hid hown5
                      replace hnu5 := Lib.hid hnu5
                      have hPg : ¬ P = g6 := by
                        have t1 := hown5.out.base g6 rfl
                        have t2 := hup.out.blk.lt
                        omega
                      obtain ⟨csg, hbg⟩ := blk_of_own hown5.out
                      have hgp := Lib.hid (row_ne ho5.out hbg (by decide))
                      replace hbg := Lib.hid hbg
                      go_wp2
                      refine wp_region_held_drew (S := fun w' => ∀ o, w'.cell? ⟨g6, o, none⟩ = w5.cell? ⟨g6, o, none⟩) (by kernel_rfl) (fun o => rfl) (fun hHeld => ?_)
                      refine wpAnyH_take (i := 0) (oi := ⟨some 84, _, _, _, _, _⟩) (v := ?_) rfl (by kernel_rfl) (by kernel_rfl) (by kernel_rfl) (fun _ _ _ h => h) (Or.inl ⟨by rfl, ?_⟩) hHeld ?_
                      rotate_left
                      · intro w hSw; go_simp; try with_reducible rfl
                      try simp only [Act.put, List.setIfInBounds_toArray, List.set_cons_zero, List.set_cons_succ]
                      refine wpAnyH_take (i := 2) (oi := ⟨some 86, _, _, _, _, _⟩) (v := ?_) rfl (by kernel_rfl) (by kernel_rfl) (by kernel_rfl) (fun _ _ _ h => h) (Or.inl ⟨by rfl, ?_⟩) hHeld ?_
                      rotate_left
                      · intro w hSw; go_simp; try with_reducible rfl
                      try simp only [Act.put, List.setIfInBounds_toArray, List.set_cons_zero, List.set_cons_succ]
                      refine wpAnyH_take (i := 3) (oi := ⟨some 87, _, _, _, _, _⟩) (v := ?_) rfl (by kernel_rfl) (by kernel_rfl) (by kernel_rfl) (fun _ _ _ h => h) (Or.inl ⟨by rfl, ?_⟩) hHeld ?_
                      rotate_left
                      · intro w hSw; go_simp; try with_reducible rfl
                      try simp only [Act.put, List.setIfInBounds_toArray, List.set_cons_zero, List.set_cons_succ]
                      refine wpAnyH_take (i := 4) (oi := ⟨some 88, _, _, _, _, _⟩) (v := ?_) rfl (by kernel_rfl) (by kernel_rfl) (by kernel_rfl) (fun _ _ _ h => h) (Or.inl ⟨by rfl, ?_⟩) hHeld ?_
                      rotate_left
                      · intro w hSw; go_simp; try with_reducible rfl
                      try simp only [Act.put, List.setIfInBounds_toArray, List.set_cons_zero, List.set_cons_succ]
                      refine wpAnyH_take (i := 5) (oi := ⟨some 89, _, _, _, _, _⟩) (v := ?_) rfl (by kernel_rfl) (by kernel_rfl) (by kernel_rfl) (fun _ _ _ h => h) (Or.inl ⟨by rfl, ?_⟩) hHeld ?_
                      rotate_left
                      · intro w hSw; go_simp; try with_reducible rfl
                      try simp only [Act.put, List.setIfInBounds_toArray, List.set_cons_zero, List.set_cons_succ]
                      refine wpAnyH_take (i := 6) (oi := ⟨some 90, _, _, _, _, _⟩) (v := ?_) rfl (by kernel_rfl) (by kernel_rfl) (by kernel_rfl) (fun _ _ _ h => h) (Or.inl ⟨by rfl, ?_⟩) hHeld ?_
                      rotate_left
                      · intro w hSw; go_simp; try with_reducible rfl
                      try simp only [Act.put, List.setIfInBounds_toArray, List.set_cons_zero, List.set_cons_succ]
                      refine wpAnyH_take (i := 7) (oi := ⟨some 91, _, _, _, _, _⟩) (v := ?_) rfl (by kernel_rfl) (by kernel_rfl) (by kernel_rfl) (fun _ _ _ h => h) (Or.inl ⟨by rfl, ?_⟩) hHeld ?_
                      rotate_left
                      · intro w hSw; go_simp; try with_reducible rfl
                      try simp only [Act.put, List.setIfInBounds_toArray, List.set_cons_zero, List.set_cons_succ]
                      refine wpAnyH_take (i := 8) (oi := ⟨some 92, _, _, _, _, _⟩) (v := ?_) rfl (by kernel_rfl) (by kernel_rfl) (by kernel_rfl) (fun _ _ _ h => h) (Or.inl ⟨by rfl, ?_⟩) hHeld ?_
                      rotate_left
                      · intro w hSw; go_simp; try with_reducible rfl
                      try simp only [Act.put, List.setIfInBounds_toArray, List.set_cons_zero, List.set_cons_succ]
                      refine wpAnyH_take (i := 9) (oi := ⟨some 93, _, _, _, _, _⟩) (v := ?_) rfl (by kernel_rfl) (by kernel_rfl) (by kernel_rfl) (fun _ _ _ h => h) (Or.inl ⟨by rfl, ?_⟩) hHeld ?_
                      rotate_left
                      · intro w hSw; go_simp; try with_reducible rfl
                      try simp only [Act.put, List.setIfInBounds_toArray, List.set_cons_zero, List.set_cons_succ]
                      refine wpAnyH_take (i := 10) (oi := ⟨some 94, _, _, _, _, _⟩) (v := ?_) rfl (by kernel_rfl) (by kernel_rfl) (by kernel_rfl) (fun _ _ _ h => h) (Or.inl ⟨by rfl, ?_⟩) hHeld ?_
                      rotate_left
                      · intro w hSw; go_simp; try with_reducible rfl
                      try simp only [Act.put, List.setIfInBounds_toArray, List.set_cons_zero, List.set_cons_succ]
                      refine wpAnyH_take (i := 11) (oi := ⟨some 95, _, _, _, _, _⟩) (v := ?_) rfl (by kernel_rfl) (by kernel_rfl) (by kernel_rfl) (fun _ _ _ h => h) (Or.inl ⟨by rfl, ?_⟩) hHeld ?_
                      rotate_left
                      · intro w hSw; go_simp; try with_reducible rfl
                      try simp only [Act.put, List.setIfInBounds_toArray, List.set_cons_zero, List.set_cons_succ]
                      refine wpAnyH_take (i := 12) (oi := ⟨some 96, _, _, _, _, _⟩) (v := ?_) rfl (by kernel_rfl) (by kernel_rfl) (by kernel_rfl) (fun _ _ _ h => h) (Or.inl ⟨by rfl, ?_⟩) hHeld ?_
                      rotate_left
                      · intro w hSw; go_simp; try with_reducible rfl
                      try simp only [Act.put, List.setIfInBounds_toArray, List.set_cons_zero, List.set_cons_succ]
                      refine wpAnyH_take (i := 13) (oi := ⟨some 97, _, _, _, _, _⟩) (v := ?_) rfl (by kernel_rfl) (by kernel_rfl) (by kernel_rfl) (fun _ _ _ h => h) (Or.inl ⟨by rfl, ?_⟩) hHeld ?_
                      rotate_left
                      · intro w hSw; go_simp; try with_reducible rfl
                      try simp only [Act.put, List.setIfInBounds_toArray, List.set_cons_zero, List.set_cons_succ]
                      refine wpAnyH_take (i := 14) (oi := ⟨some 98, _, _, _, _, _⟩) (v := ?_) rfl (by kernel_rfl) (by kernel_rfl) (by kernel_rfl) (fun _ _ _ h => h) (Or.inl ⟨by rfl, ?_⟩) hHeld ?_
                      rotate_left
                      · intro w hSw; go_simp; try with_reducible rfl
                      try simp only [Act.put, List.setIfInBounds_toArray, List.set_cons_zero, List.set_cons_succ]
                      refine wpAnyH_ready (rs := [1, 15]) (by kernel_rfl) (by simp) (AllReadyH.cons (o := ⟨some 85, _, _, _, _, _⟩) rfl (fun K hK => ?_) (AllReadyH.cons (o := ⟨some 99, _, _, _, _, _⟩) rfl (fun K hK => ?_) AllReadyH.nil))
                      rotate_left
                      go_simp
                      refine hK.out _ _ (fun o => alloc_keep hlg o) (fun hHeld => ?_)
                      clear hK K
                      try simp only [Act.put, List.setIfInBounds_toArray, List.set_cons_zero, List.set_cons_succ]
                      refine wpAnyH_ready (rs := [1]) (by kernel_rfl) (by simp) (AllReadyH.cons (o := ⟨some 85, _, _, _, _, _⟩) rfl (fun K hK => ?_) AllReadyH.nil)
                      go_simp
                      refine hK.out _ _ (fun o => alloc_keep hlg o) (fun hHeld => ?_)
                      clear hK K
                      try simp only [Act.put, List.setIfInBounds_toArray, List.set_cons_zero, List.set_cons_succ]
                      rotate_left
                      go_simp
                      refine hK.out _ _ (fun o => rfl) (fun hHeld => ?_)
                      clear hK K
                      try simp only [Act.put, List.setIfInBounds_toArray, List.set_cons_zero, List.set_cons_succ]
                      refine wpAnyH_ready (rs := [15]) (by kernel_rfl) (by simp) (AllReadyH.cons (o := ⟨some 99, _, _, _, _, _⟩) rfl (fun K hK => ?_) AllReadyH.nil)
                      go_simp
                      refine hK.out _ _ (fun o => alloc_keep hlg o) (fun hHeld => ?_)
                      clear hK K
                      try simp only [Act.put, List.setIfInBounds_toArray, List.set_cons_zero, List.set_cons_succ]
                      all_goals
                        refine wpAnyH_ready (rs := [16]) (by kernel_rfl) (by simp) (AllReadyH.cons (o := ⟨some 100, _, _, _, _, _⟩) rfl (fun K hK => ?_) AllReadyH.nil)
                        rw [if_pos (by rfl)]
                        refine wp_appE (α := Fl) (.tmp 85) (.tmp 99) 24 rfl 47 4 P 32 _ flC Tryz.underlying24 info_rect rfl (by decide) (by decide) flC_len flC_one (.slice Af done.length cf) done ⟨x0, x1, x2, x3⟩ w5.heap.size 1 rfl ((ho5.out.ext (Ext.refl w5).drew).alloc _) rfl (Blk.new w5.drew 47 _) hdn (le_alloc_drew hBw.out) ?_
                        intro A7 cap7 w7 ho7 hg7
                        have hkeep : ∀ o, w7.cell? ⟨g6, o, none⟩ = w5.cell? ⟨g6, o, none⟩ := keep_grown hg7 hgp.out hlg
                        have hb7 := (hb5.out.drew.alloc _).grown hg7 (fun h => row_ne ho5.out hb5.out (by decide) h.symm)
                        have hG7 := Lib.hid (grown_after (((Ext.refl w5).alloc _).drew) hg7)
                        refine hK.out _ _ hkeep (fun hHeld => ?_)
                        clear hK K
                        try simp only [Act.put, List.setIfInBounds_toArray, List.set_cons_zero, List.set_cons_succ]
                        have f97 := hb7.frozen 6
                        have hlt7 := hb7.lt
                        have q97 : w7.cell? ⟨P, 6, none⟩ = some (.slice Af done.length cf) := hb7.cell 6
                        replace hb7 := Lib.hid hb7
                        replace ho7 := Lib.hid ho7
                        replace hg7 := Lib.hid hg7
                        refine wpAnyH_take (i := 17) (oi := ⟨some 101, _, _, _, _, _⟩) (v := ?_) rfl (by kernel_rfl) (by kernel_rfl) (by kernel_rfl) (fun _ _ _ h => h) (Or.inl ⟨by rfl, ?_⟩) hHeld ?_
                        rotate_left
                        · intro w hSw; go_simp; try with_reducible rfl
                        try simp only [Act.put, List.setIfInBounds_toArray, List.set_cons_zero, List.set_cons_succ]
                        refine wpAnyH_ready (rs := [18]) (by kernel_rfl) (by simp) (AllReadyH.cons (o := ⟨none, _, _, _, _, _⟩) rfl (fun K hK => ?_) AllReadyH.nil)
                        go_simp
                        refine hK.out _ _ (fun o => (World.cell?_setCell_other _ _ _ _ (fun t => hPg (by cases t; rfl))).trans (hkeep o)) (fun hHeld => ?_)
                        clear hK K
                        try simp only [Act.put, List.setIfInBounds_toArray, List.set_cons_zero, List.set_cons_succ]
                        refine wpAnyH_done (by kernel_rfl) ?_ _
                        obtain ⟨w8, hw8⟩ : ∃ w8, w8 = w7.setCell ⟨P, 6, none⟩ (.slice A7 (done.length + 1) cap7) := ⟨_, rfl⟩
                        have hgr : w7.grownBy w8 (some P) := by rw [hw8]; exact grown_set _ 6 _
                        have hq8 := Lib.hid (show Blk w8 P 26 #[.string (ws[1]'h1l), .int .i64 n1, .int .i64 n0, .int .i64 n2, .int .i64 n3, .int .i64 n4, .slice A7 (done.length + 1) cap7] from hw8 ▸ hb7.out.set_ 6 _)
                        have ho8 := Lib.hid (ho7.out.kept hgr (.inr (row_ne ho7.out hb7.out (by decide))))
                        have hE8 := Lib.hid (show Ext w3 w8 from hw8 ▸ ((ho5.out.extGrown hE35.out (Nat.le_of_eq hPs.out) hG7.out)).setCell (p := ⟨P, 6, none⟩) (Nat.le_of_eq hPs.out) _)
                        rw [← hw8]
                        clear hw8 hgr q97 f97 hlt7 hkeep hHeld c0 c1 c2 c3 q9 f9 hlt9 hlg hPg
                        have hup2 := Lib.hid (hup.out.up.nextN h5m (by rw [List.getElem_map]; exact hk5.out) (by rw [← hmap5.out]; exact hnu5.out))
                        have hrd5 := Lib.hid (hup.out.rd.from 5 h5l)
                        have hs5 := Lib.hid (show (rest.map bs).drop 5 = (rest.drop 5).map bs by rw [List.map_drop])
                        have hfew := hup.out.few
                        have hm5' := hup.out.m5
                        have hsz' := Lib.hid (fun x hx => hup.out.sz x (List.mem_of_mem_drop (i := 5) hx))
                        have hi64' := Lib.hid (show ∀ f ∈ done ++ [⟨x0, x1, x2, x3⟩], FlI f from fun f hf => by
                          rcases List.mem_append.1 hf with hf | hf
                          · exact hup.out.i64 f hf
                          · rw [List.mem_singleton] at hf
                            subst hf
                            exact ⟨i18 (hsm.out x0 (by simp)), i18 (hsm.out x1 (by simp)), i18 (hsm.out x2 (by simp)), i18 (hsm.out x3 (by simp))⟩)
                        rw [hs5.out] at hup2
                        replace hfew := Lib.hid hfew
                        replace hm5' := Lib.hid hm5'
                        by_cases hc55 : c5 = 5
                        · have hl5 : rest.length = 5 := by omega
                          subst hc55
                          go_wp2
                          go_roundw
                          case rel =>
                            have hd0 : rest.drop 5 = [] := List.drop_of_length_le (by omega)
                            refine ⟨[], done ++ [⟨x0, x1, x2, x3⟩], _, ⟨?_, ?_, rfl, ?_, fun _ h => (by cases h), hi64'.out, hq8.out, ho8.out, hE8.out⟩⟩
                            · first
                                | exact RdS.nilAny _ _ _ (by simp [maxLen])
                                | (have := RdS.nilAny w3 (some ⟨b5, o5, none⟩) 0 (by simp [maxLen]); simpa [hl5] using this)
                            · have := hup2.out; rw [hd0] at this; exact this
                            · have := hfew.out; simp; omega
                          case measure => simp [sliceLen, hl5]
                        · have h5c : 5 ≤ c5 := by omega
                          go_wp2
                          go_roundw
                          case rel =>
                            refine ⟨rest.drop 5, done ++ [⟨x0, x1, x2, x3⟩], _, ⟨hrd5.out, hup2.out, ?_, ?_, hsz'.out, hi64'.out, hq8.out, ho8.out, hE8.out⟩⟩
                            · have := hm5'.out; rw [List.length_drop]; omega
                            · have := hfew.out; rw [List.length_drop]; simp; omega
                          case measure => simp [sliceLen]; omega

end Go.Proofs.YtphaigncbenmmaaGreatDoor
