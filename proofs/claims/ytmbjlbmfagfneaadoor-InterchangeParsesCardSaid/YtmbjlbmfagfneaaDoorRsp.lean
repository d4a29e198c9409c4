/- split of the reference. -/
import Derived.Test.YtmbjlbmfagfneaaDoorRns
namespace Go.Proofs.YtmbjlbmfagfneaaDoor
open Go Go.RowKit

theorem cuts_snoc_hit (d : UInt8) (t : B) : cuts d (t ++ [d]) = cuts d t ++ [[]] := by
  obtain ⟨ls, p, e1, e2⟩ := cuts_front d [d] t
  rw [e1, e2]
  simp [cuts]
theorem cuts_snoc_miss {d c : UInt8} (h : c ≠ d) (t : B) {ls : List B} {p : B} (e : cuts d t = ls ++ [p]) : cuts d (t ++ [c]) = ls ++ [p ++ [c]] := by
  obtain ⟨ls', p', e1, e2⟩ := cuts_front d [c] t
  rw [e] at e1
  obtain ⟨h1, h2⟩ := List.append_inj' e1 rfl
  have h2 : p = p' := by simpa using h2
  subst h1; subst h2
  rw [e2]
  simp [cuts, h]

/-- the words of the first k bytes -/
structure SplUp (s : ByteArray) (k : Nat) (ls : List ByteArray) (x : ByteArray) : Prop where
  cuts : cuts 32 ((bs s).take k) = (ls ++ [x]).map bs
  len : ls.length ≤ k
  size : x.size ≤ k

theorem SplUp.hit {s : ByteArray} {k : Nat} {ls : List ByteArray} {x : ByteArray} (h : SplUp s k ls x) (hk : k < (bs s).length) (hc : (bs s)[k] = 32) : SplUp s (k + 1) (ls ++ [x]) ⟨#[]⟩ := by
  refine ⟨?_, ?_, Nat.zero_le _⟩
  · rw [take_snoc _ _ hk, hc, cuts_snoc_hit, h.cuts, List.map_append (l₁ := ls ++ [x])]; rfl
  · rw [List.length_append]; have := h.len; simp; omega
theorem SplUp.miss {s : ByteArray} {k : Nat} {ls : List ByteArray} {x : ByteArray} (h : SplUp s k ls x) (hk : k < (bs s).length) (hc : (bs s)[k] ≠ 32) : SplUp s (k + 1) ls (x ++ s.extract k (k + 1)) := by
  have he : bs (x ++ s.extract k (k + 1)) = bs x ++ [(bs s)[k]] := by
    have : bs (s.extract k (k + 1)) = [(bs s)[k]] := by
      unfold bs
      rw [ByteArray.data_extract, Array.toList_extract, List.extract_eq_take_drop]
      have hk' : k < s.data.toList.length := hk
      rw [List.drop_eq_getElem_cons hk', show k + 1 - k = 1 by omega]; rfl
    rw [← this]; simp [bs]
  refine ⟨?_, by have := h.len; omega, ?_⟩
  · have h1 := h.cuts
    rw [List.map_append] at h1
    rw [take_snoc _ _ hk, cuts_snoc_miss hc _ (p := bs x) h1, List.map_append]
    simp [he]
  · rw [← bs_len, he, List.length_append, bs_len]
    have := h.size; simp; omega

theorem OwnS.setLast {B : Nat} {w : World} {g cap : Nat} {ls : List ByteArray} {x : ByteArray} (h : OwnS B w (.slice (some ⟨g, 0, none⟩) (ls.length + 1) cap) (ls ++ [x])) (y : ByteArray) :
    OwnS B (w.setCell ⟨g, ls.length, none⟩ (.string y)) (.slice (some ⟨g, 0, none⟩) (ls.length + 1) cap) (ls ++ [y]) := by
  refine ⟨by simp, .inr ?_⟩
  rcases h.2 with ⟨h1, _⟩ | ⟨g', cap', cur, e, hb, hh, hn, hm, hsz, ht⟩
  · injection h1 with h1; cases h1
  · injection e with e1 e2 e3
    injection e1 with e1
    injection e1 with e1
    subst e1; subst e3
    simp only [List.length_append, List.length_singleton] at hn ht
    have hlt : ls.length < cur.size := by omega
    refine ⟨g, cap, cur.setIfInBounds ls.length (.string y), by simp, hb, ?_, by simpa using hn, hm, by simp [hsz], ?_⟩
    · simp [World.setCell, Array.getElem?_modify, hh]
    · rw [Array.toList_setIfInBounds]
      apply List.ext_getElem?
      intro i
      simp only [List.length_append, List.length_singleton, Nat.mul_one] at ht ⊢
      have h2 := congrArg (fun l => l[i]?) ht
      simp only [List.getElem?_take] at h2 ⊢
      by_cases hi : i < ls.length + 1
      · rw [if_pos hi] at h2 ⊢
        rw [List.getElem?_set]
        by_cases he : ls.length = i
        · subst he
          simp [hlt]
        · rw [if_neg he, h2]
          have hil : i < ls.length := by omega
          simp [List.getElem?_append_left, hil]
      · rw [if_neg hi]
        simp; omega

/-- a row of texts with at least one: where its last lies -/
theorem OwnS.last {B : Nat} {w : World} {v : Value} {ls : List ByteArray} {x : ByteArray} (h : OwnS B w v (ls ++ [x])) : ∃ g cap, v = .slice (some ⟨g, 0, none⟩) (ls.length + 1) cap ∧ w.cell? ⟨g, ls.length, none⟩ = some (.string x) ∧ w.frozen? ⟨g, ls.length, none⟩ = false ∧ g < w.heap.size ∧ B ≤ g ∧ ls.length + 1 ≤ cap ∧ cap ≤ maxLen := by
  have hr := h.rdS
  rcases h.2 with ⟨h1, h0⟩ | ⟨g, cap, cur, rfl, hb, hh, hn, hm, hsz, ht⟩
  · simp at h0
  · obtain ⟨A, c2, e, h1, h2, hc⟩ := hr
    obtain ⟨b, o, e2, hcell⟩ := hc ls.length (by simp)
    injection e with e3 _ e4
    rw [← e3] at e2
    injection e2 with e2
    injection e2 with e5 e6
    subst e5; subst e6
    refine ⟨g, cap, by simp, by simpa using hcell, ?_, (Array.getElem?_eq_some_iff.1 hh).1, hb, by simpa using hn, hm⟩
    simp [World.frozen?, hh]

/-- append of texts onto a row of the call's own -/
theorem wpList_appS {w : World} {ops : Array Oper} {rest : List Oper} {o : Oper} {a : Act} {Q : Exit → Act → World → Prop} (hgd : o.guard = none) (s x : Operand)
    (ho : o.op = .call { callee := .builtin .append, args := #[s, x], argTypes := #[68, 68] })
    (B : Nat) (v : Value) (l ys : List ByteArray) (A : Option Addr) (c : Nat) (hs : a.eval s = v) (hown : OwnS B w v l) (hx : a.eval x = .slice A ys.length c)
    (hc : SrcS w A ys) (hlen : l.length + ys.length ≤ 1099511627776) (hbase : B ≤ w.heap.size)
    (h : ∀ A' cap w', OwnS B w' (.slice A' (l.length + ys.length) cap) (l ++ ys) → w.grownBy w' v.ownBlock → wpList Tryd.prog ops Q rest (a.put o.dst (.slice A' (l.length + ys.length) cap)) w') :
    wpList Tryd.prog ops Q (o :: rest) a w := by
  refine wpList_plain hgd fun K hK => ?_
  refine wp_appS s x ho B v l ys A c hs hown hx hc hlen hbase fun A' cap w' h1 h2 => hK _ _ (h A' cap w' h1 h2)
theorem srcS_one (w : World) (x : ByteArray) : SrcS (w.alloc (.cells #[.string x] 9)) (some ⟨w.heap.size, 0, none⟩) [x] := fun j hj => by
  have hj : j < 1 := hj
  obtain rfl : j = 0 := by omega
  exact ⟨w.heap.size, 0, rfl, (Blk.new w 9 _).cell 0⟩

set_option maxHeartbeats 1000000 in
theorem c_rsplit (s : ByteArray) (w : World) (hs : s.size ≤ 30000) :
    Calls Tryd.prog 37 #[.string s] w fun e w' => ∃ v ws, e = .returned v ∧ RdS w' v ws ∧ ws.map bs = cuts 32 (bs s) ∧ Ext w w' := by
  go_enter Tryd.func37, Tryd.ntmps37
  go_wp2
  go_loopw [3, 4] (fun v i wr => ∃ (k : Nat) (ls : List ByteArray) (x : ByteArray), k ≤ s.size ∧ i = .int .i64 k ∧ SplUp s k ls x ∧ OwnS w.heap.size wr v (ls ++ [x]) ∧ Ext w wr) (fun _ i _ => s.size - (intOf i).toNat)
  case atStart =>
    refine ⟨0, [], ⟨#[]⟩, Nat.zero_le _, rfl, ⟨by rw [List.take_zero]; rfl, Nat.le_refl _, Nat.le_refl _⟩, ?_, (Ext.refl w).alloc _⟩
    exact ⟨rfl, .inr ⟨w.heap.size, 1, #[.string ⟨#[]⟩], rfl, Nat.le_refl _, heap_alloc_new w _, by simp, by simp [maxLen], rfl, rfl⟩⟩
  case round =>
    obtain ⟨k, ls, x, hk, rfl, hup, hown, hext⟩ := hrel
    have hl1 := hup.len
    have hl2 := hup.size
    obtain ⟨g, cap, rfl, hcell, hfz, hgl, hbg, hc1, hc2⟩ := hown.last
    unfold maxLen at hc2
    replace hown := Lib.hid hown
    replace hext := Lib.hid hext
    by_cases hlt : k < s.size
    · have hkl : k < (bs s).length := by rw [bs_len]; exact hlt
      rcases hb : ((s[k].toNat : Int) == 32) with _ | _
      · have hne : (bs s)[k] ≠ 32 := fun e => by
          have : s[k] = 32 := e
          rw [this] at hb; exact absurd hb (by decide)
        have hup2 := Lib.hid (hup.miss hkl hne)
        clear hne
        have i1 : (0 : Int) ≤ (ls.length : Int) := by omega
        have hw1 : IntKind.i64.wrap ((ls.length : Int) + 1 - 1) = (ls.length : Int) := IntWalk.i64_in _ (by omega) |>.trans (by omega)
        have hw2 : IntKind.i64.wrap ((k : Int) + 1) = (k : Int) + 1 := IntWalk.i64_in _ (by omega)
        have z1 : ¬ 9223372036854775807 < x.size + (s.extract k (k + 1)).size := by
          rw [ByteArray.size_extract]; omega
        go_wp2
        go_region
        have hOw := Lib.hid ((hown.out.setLast (x ++ s.extract k (k + 1))).ext (Ext.refl _).drew)
        have hEx := Lib.hid ((hext.out.setCell (p := ⟨g, ls.length, none⟩) hbg (.string (x ++ s.extract k (k + 1)))).drew)
        go_wp2
        go_roundw
        case rel => exact ⟨k + 1, ls, x ++ s.extract k (k + 1), by omega, by go_num, hup2.out, hOw.out, hEx.out⟩
        case measure => simp [intOf]; omega
      · have he : (bs s)[k] = 32 := by
          apply UInt8.toNat_inj.1
          show s[k].toNat = 32
          rw [beq_iff_eq] at hb; omega
        have hup2 := Lib.hid (hup.hit hkl he)
        clear he
        go_wp2_with (at_builtin; refine wpList_appS rfl (.tmp 16) (.tmp 17) rfl w.heap.size (.slice (some ⟨g, 0, none⟩) (ls.length + 1) cap) (ls ++ [x]) [⟨#[]⟩] (some ⟨wr.heap.size, 0, none⟩) 1 rfl (hown.out.alloc _) rfl (srcS_one wr ⟨#[]⟩) (by simp; omega) (by have := hext.out.size; simp; omega) ?_; (intro A2 cap2 w2 ho hg))
        go_roundw
        case rel => exact ⟨k + 1, ls ++ [x], ⟨#[]⟩, by omega, by go_num, hup2.out, (by simpa using ho), (hown.out.alloc _).extGrown (hext.out.alloc _) (Nat.le_refl _) hg⟩
        case measure => simp [intOf]; omega
    · have hc := Lib.hid hup.cuts
      go_wp2
      go_ret
      refine ⟨_, ls ++ [x], rfl, hown.out.rdS, ?_, hext.out⟩
      rw [← hc.out, List.take_of_length_le (by rw [bs_len]; omega)]

end Go.Proofs.YtmbjlbmfagfneaaDoor
