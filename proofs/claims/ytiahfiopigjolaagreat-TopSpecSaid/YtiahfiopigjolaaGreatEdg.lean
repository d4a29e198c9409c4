/- Contracts of style.isEdge, seam.isEdge, seam.isSize, spec.isName. -/
import Derived.Test.YtiahfiopigjolaaGreatWho
import Derived.Test.YtiahfiopigjolaaGreatGrd
namespace Go.Proofs.YtiahfiopigjolaaGreat
open Go Go.RowKit

/-- what a walk reads of one piece -/
theorem RdL.piece {w : World} {A : Option Addr} {n c : Nat} {xs : List Pc} (h : RdL 7 pcP w (.slice A n c) xs) (j : Nat) (hj : j < xs.length) : ∃ b o A1 c1 A2 c2 A3 c3 A4 c4, A = some ⟨b, o, none⟩ ∧ PcR w xs[j] (.slice A1 xs[j].edges.length c1) (.slice A2 xs[j].notches.length c2) (.slice A3 xs[j].corners.length c3) (.slice A4 xs[j].widths.length c4) ∧
    w.cell? ⟨b, o + j * 7, none⟩ = some (.string xs[j].name) ∧ w.cell? ⟨b, o + j * 7 + 1, none⟩ = some (.slice A1 xs[j].edges.length c1) ∧ w.cell? ⟨b, o + j * 7 + 2, none⟩ = some (.int .i64 xs[j].grain) ∧ w.cell? ⟨b, o + j * 7 + 3, none⟩ = some (.slice A2 xs[j].notches.length c2) ∧
    w.cell? ⟨b, o + j * 7 + 4, none⟩ = some (.slice A3 xs[j].corners.length c3) ∧ w.cell? ⟨b, o + j * 7 + 5, none⟩ = some (.slice A4 xs[j].widths.length c4) ∧ w.cell? ⟨b, o + j * 7 + 6, none⟩ = some (.bool xs[j].mat) := by
  obtain ⟨A', c', e, _, _, h3⟩ := h
  injection e with e1 _ _
  obtain ⟨b, o, cs, e2, ⟨v1, v2, v3, v4, hp, hr⟩, _, hc⟩ := h3 j hj
  subst hp
  obtain ⟨A1, c1, rfl⟩ := hr.ed.slice
  obtain ⟨A2, c2, rfl⟩ := hr.nt.slice
  obtain ⟨A3, c3, rfl⟩ := hr.co.slice
  obtain ⟨A4, c4, rfl⟩ := hr.wi.slice
  exact ⟨b, o, A1, c1, A2, c2, A3, c3, A4, c4, e1.trans e2, hr, hc 0 (by omega), hc 1 (by omega), hc 2 (by omega), hc 3 (by omega), hc 4 (by omega), hc 5 (by omega), hc 6 (by omega)⟩

theorem edgeB_piece {s : St} {p e : Int} (h : ¬ (0 ≤ p ∧ p < s.pieces.length)) : edgeB s p e = false := by
  unfold edgeB inR
  rw [Bool.and_eq_false_iff]
  left
  rw [decide_eq_false_iff_not]
  omega
theorem edgeB_at {s : St} {k : Nat} {e : Int} (hk : k < s.pieces.length) : edgeB s k e = decide (0 ≤ e ∧ e < s.pieces[k].edges.length) := by
  unfold edgeB inR
  rw [Int.toNat_natCast, nth_eq s.pieces hk, Bool.eq_iff_iff]
  simp only [Bool.and_eq_true, decide_eq_true_eq]
  omega

set_option maxHeartbeats 2000000 in
theorem c_stEdge (s : St) (v1 v2 v3 v4 v5 v6 : Value) (p e : Int) (w : World) (h : StR w s v1 v2 v3 v4 v5 v6) : Calls Tryz.prog 15 #[.agg (stC s v1 v2 v3 v4 v5 v6).toArray, .int .i64 p, .int .i64 e] w fun r w' => r = .returned (.bool (edgeB s p e)) ∧ Ext w w' := by
  obtain ⟨A3, c3, rfl⟩ := h.pc.slice
  have hle := h.pc.le
  unfold maxLen at hle
  have hpc := Lib.hid h.pc
  clear h
  unfold stC
  by_cases h0 : 0 ≤ p
  rotate_left
  · have hd := Lib.hid (edgeB_piece (s := s) (p := p) (e := e) (fun h => h0 h.1))
    go_enter Tryz.func15, Tryz.ntmps15
    go_wp2
    go_ret
    exact ⟨ret_bool hd.out.symm, (Ext.refl w).alloc _⟩
  by_cases h1 : p < s.pieces.length
  rotate_left
  · have hd := Lib.hid (edgeB_piece (s := s) (p := p) (e := e) (fun h => h1 h.2))
    go_enter Tryz.func15, Tryz.ntmps15
    go_wp2
    go_ret
    exact ⟨ret_bool hd.out.symm, (Ext.refl w).alloc _⟩
  obtain ⟨k, rfl⟩ : ∃ k : Nat, p = (k : Int) := ⟨p.toNat, by omega⟩
  have hk : k < s.pieces.length := by omega
  obtain ⟨b, o, A1, c1, A2, c2, A3', c3', A4, c4, rfl, hr, d0, d1, _⟩ := hpc.out.piece k hk
  have hel := hr.ed.le
  unfold maxLen at hel
  have hd := Lib.hid (edgeB_at (e := e) hk)
  clear hr
  obtain ⟨q, hq⟩ : ∃ q, q = s.pieces[k] := ⟨_, rfl⟩
  rw [← hq] at d0 d1 hel hd
  clear hq
  have lb := World.block_lt_of_cell? _ _ d1
  by_cases h2 : 0 ≤ e
  · by_cases h3 : e < q.edges.length
    · replace hd := Lib.hid (hd.out.trans (decide_eq_true ⟨h2, h3⟩))
      go_enter Tryz.func15, Tryz.ntmps15
      go_wp2
      go_ret
      exact ⟨ret_bool hd.out.symm, (Ext.refl w).alloc _⟩
    · replace hd := Lib.hid (hd.out.trans (decide_eq_false (fun h => h3 h.2)))
      go_enter Tryz.func15, Tryz.ntmps15
      go_wp2
      go_ret
      exact ⟨ret_bool hd.out.symm, (Ext.refl w).alloc _⟩
  · replace hd := Lib.hid (hd.out.trans (decide_eq_false (fun h => h2 h.1)))
    go_enter Tryz.func15, Tryz.ntmps15
    go_wp2
    go_ret
    exact ⟨ret_bool hd.out.symm, (Ext.refl w).alloc _⟩

set_option maxHeartbeats 2000000 in
theorem c_smEdge (s : St) (v1 v2 v3 v4 v5 v6 : Value) (p e : Int) (w : World) (h : StR w s v1 v2 v3 v4 v5 v6) : Calls Tryz.prog 40 #[.agg (stC s v1 v2 v3 v4 v5 v6).toArray, .int .i64 p, .int .i64 e] w fun r w' => r = .returned (.bool (edgeB s p e)) ∧ Ext w w' := by
  obtain ⟨A3, c3, rfl⟩ := h.pc.slice
  have hle := h.pc.le
  unfold maxLen at hle
  have hpc := Lib.hid h.pc
  clear h
  unfold stC
  by_cases h0 : 0 ≤ p
  rotate_left
  · have hd := Lib.hid (edgeB_piece (s := s) (p := p) (e := e) (fun h => h0 h.1))
    go_enter Tryz.func40, Tryz.ntmps40
    go_wp2
    go_ret
    exact ⟨ret_bool hd.out.symm, (Ext.refl w).alloc _⟩
  by_cases h1 : p < s.pieces.length
  rotate_left
  · have hd := Lib.hid (edgeB_piece (s := s) (p := p) (e := e) (fun h => h1 h.2))
    go_enter Tryz.func40, Tryz.ntmps40
    go_wp2
    go_ret
    exact ⟨ret_bool hd.out.symm, (Ext.refl w).alloc _⟩
  obtain ⟨k, rfl⟩ : ∃ k : Nat, p = (k : Int) := ⟨p.toNat, by omega⟩
  have hk : k < s.pieces.length := by omega
  obtain ⟨b, o, A1, c1, A2, c2, A3', c3', A4, c4, rfl, hr, d0, d1, _⟩ := hpc.out.piece k hk
  have hel := hr.ed.le
  unfold maxLen at hel
  have hd := Lib.hid (edgeB_at (e := e) hk)
  clear hr
  obtain ⟨q, hq⟩ : ∃ q, q = s.pieces[k] := ⟨_, rfl⟩
  rw [← hq] at d0 d1 hel hd
  clear hq
  have lb := World.block_lt_of_cell? _ _ d1
  by_cases h2 : 0 ≤ e
  · by_cases h3 : e < q.edges.length
    · replace hd := Lib.hid (hd.out.trans (decide_eq_true ⟨h2, h3⟩))
      go_enter Tryz.func40, Tryz.ntmps40
      go_wp2
      go_ret
      exact ⟨ret_bool hd.out.symm, (Ext.refl w).alloc _⟩
    · replace hd := Lib.hid (hd.out.trans (decide_eq_false (fun h => h3 h.2)))
      go_enter Tryz.func40, Tryz.ntmps40
      go_wp2
      go_ret
      exact ⟨ret_bool hd.out.symm, (Ext.refl w).alloc _⟩
  · replace hd := Lib.hid (hd.out.trans (decide_eq_false (fun h => h2 h.1)))
    go_enter Tryz.func40, Tryz.ntmps40
    go_wp2
    go_ret
    exact ⟨ret_bool hd.out.symm, (Ext.refl w).alloc _⟩

set_option maxHeartbeats 1000000 in
theorem c_smSize (s : St) (v1 v2 v3 v4 v5 v6 : Value) (z : Int) (w : World) (h : StR w s v1 v2 v3 v4 v5 v6) : Calls Tryz.prog 26 #[.agg (stC s v1 v2 v3 v4 v5 v6).toArray, .int .i64 z] w fun r w' => r = .returned (.bool (decide (0 ≤ z ∧ z < s.mults.length))) ∧ Ext w w' := by
  obtain ⟨A2, c2, rfl⟩ := h.mu.slice
  have hle := h.mu.le
  unfold maxLen at hle
  clear h
  unfold stC
  by_cases h0 : 0 ≤ z
  · by_cases h1 : z < s.mults.length
    · go_enter Tryz.func26, Tryz.ntmps26
      go_wp2
      go_ret
      exact ⟨ret_bool (by simp [h0, h1]), (Ext.refl w).alloc _⟩
    · go_enter Tryz.func26, Tryz.ntmps26
      go_wp2
      go_ret
      exact ⟨ret_bool (by simp; omega), (Ext.refl w).alloc _⟩
  · go_enter Tryz.func26, Tryz.ntmps26
    go_wp2
    go_ret
    exact ⟨ret_bool (by simp; omega), (Ext.refl w).alloc _⟩

end Go.Proofs.YtiahfiopigjolaaGreat
