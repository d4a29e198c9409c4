/- SkillNames walked. -/
import Derived.Test.YthfcllefmeoicaaAppW
import Derived.Test.YthfcllefmeoicaaLawC
namespace Go.Proofs.Ythfcllefmeoicaa
open Go.RowKit
attribute [local go_sem ↓] Go.wp_at_zero Go.wp_at_succ

/-- the other name of worker i -/
def wnm (i : Nat) : ByteArray := ⟨#[119]⟩ ++ (⟨#[97, 98, 99, 100, 101, 102, 103, 104, 105, 106, 107, 108, 109, 110]⟩ : ByteArray).extract i (i + 1)
/-- the first k workers under their other names -/
def oth (l : List EW) (k : Nat) : List EW := (List.range k).map fun i => (⟨wnm i, (l.getD i (⟨ByteArray.empty, []⟩, undef)).1.mach⟩, (l.getD i (⟨ByteArray.empty, []⟩, undef)).2)
theorem oth_len (l : List EW) (k : Nat) : (oth l k).length = k := by simp [oth]
theorem oth_succ (l : List EW) (k : Nat) (h : k < l.length) : oth l (k + 1) = oth l k ++ [(⟨wnm k, l[k].1.mach⟩, l[k].2)] := by
  unfold oth
  rw [List.range_succ, List.map_append]
  simp [h]

theorem errsW_zero : ∀ (l bef : List Wk), errsW bef l = 0 ↔ ∀ k (h : k < l.length), wkE (bef ++ l.take k) l[k] = 0
  | [], bef => by simp [errsW]
  | x :: r, bef => by
    rw [errsW]
    constructor
    · intro h k hk
      by_cases h0 : wkE bef x = 0
      · rw [if_pos h0] at h
        rcases k with _ | k
        · simpa using h0
        · have := (errsW_zero r (bef ++ [x])).1 h k (by simpa using hk)
          simpa using this
      · rw [if_neg h0] at h; exact absurd h h0
    · intro h
      have h0 : wkE bef x = 0 := by have := h 0 (Nat.zero_lt_succ _); rw [List.take_zero, List.append_nil] at this; exact this
      rw [if_pos h0]
      refine (errsW_zero r (bef ++ [x])).2 fun k hk => ?_
      have := h (k + 1) (by simpa using hk)
      simpa using this

theorem wnm_ok : (List.range 14).all (fun i => nmB (wnm i) && (List.range i).all fun j => !((wnm j).toList == (wnm i).toList)) = true := by kernel_rfl

/-- the workers under their other names -/
def othW (ws : List Wk) : List Wk := (List.range ws.length).map fun i => ⟨wnm i, (ws.getD i ⟨ByteArray.empty, []⟩).mach⟩
theorem oth_map (l : List EW) : (oth l l.length).map (·.1) = othW (l.map (·.1)) := by
  unfold oth othW
  rw [List.map_map, List.length_map]
  apply List.map_congr_left
  intro i hi
  have hi' : i < l.length := by simpa using hi
  simp [hi']
theorem othW_len (ws : List Wk) : (othW ws).length = ws.length := by simp [othW]
theorem othW_at (ws : List Wk) (k : Nat) (h : k < ws.length) (h' : k < (othW ws).length) : (othW ws)[k] = ⟨wnm k, ws[k].mach⟩ := by
  simp [othW, h]
theorem machE_of {ws : List Wk} (h : chkW ws = 0) (k : Nat) (hk : k < ws.length) : machE [] ws[k].mach = 0 := by
  unfold chkW at h
  by_cases h12 : 12 < ws.length
  · rw [if_pos h12] at h; cases h
  · rw [if_neg h12] at h
    have := (errsW_zero ws []).1 h k hk
    unfold wkE at this
    split at this
    · split at this
      · cases this
      · exact this
    · cases this
theorem othW_chk {ws : List Wk} (h : chkW ws = 0) : chkW (othW ws) = 0 := by
  have h12 : ¬ 12 < ws.length := fun h12 => by unfold chkW at h; rw [if_pos h12] at h; cases h
  unfold chkW
  rw [othW_len, if_neg h12, errsW_zero]
  intro k hk
  have hk' : k < ws.length := by rwa [othW_len] at hk
  have hn := wnm_ok
  rw [List.all_eq_true] at hn
  have hnk := hn k (by simp; omega)
  rw [Bool.and_eq_true, List.all_eq_true] at hnk
  have hno : hasName (([] : List Wk) ++ (othW ws).take k) (wnm k) = false := by
    unfold hasName
    rw [List.nil_append, List.any_eq_false]
    intro x hx
    obtain ⟨j, hj, rfl⟩ := List.mem_take_iff_getElem.1 hx
    rw [othW_at ws j (by omega)]
    have := hnk.2 j (by simp; omega)
    simpa using this
  rw [othW_at ws k hk']
  unfold wkE
  rw [if_pos hnk.1, hno]
  exact machE_of h k hk'
theorem othW_sets (ws : List Wk) (needs : List Int) : setsW (othW ws) needs = setsW ws needs := by
  unfold setsW
  apply List.map_congr_left
  intro m _
  funext i
  rcases Nat.lt_or_ge i ws.length with h | h
  · rw [ableB_at (by rw [othW_len]; exact h), ableB_at h, othW_at ws i h]
  · rw [ableB_out (by rw [othW_len]; exact h), ableB_out h]
theorem othW_ask {ws : List Wk} (h : chkW ws = 0) (needs : List Int) : askE (othW ws) needs = askE ws needs := by
  unfold askE; rw [othW_chk h, h]
theorem othW_mt {ws : List Wk} (h : chkW ws = 0) (needs : List Int) : mtL (othW ws) needs = mtL ws needs := by
  unfold mtL; rw [othW_ask h, othW_sets]

theorem wnm_size (i : Nat) : (wnm i).size ≤ 15 := by
  unfold wnm
  rw [ByteArray.size_append, ByteArray.size_extract]
  have : (⟨#[97, 98, 99, 100, 101, 102, 103, 104, 105, 106, 107, 108, 109, 110]⟩ : ByteArray).size = 14 := rfl
  have h1 : (⟨#[119]⟩ : ByteArray).size = 1 := rfl
  omega

set_option maxRecDepth 100000 in
set_option maxHeartbeats 1000000 in
theorem w_names (v u : Value) (ws : List Wk) (needs : List Int) (w : World) (h : RdW w v ws) (g : RdI w u needs) :
    Calls Try.prog 10 #[v, u] w fun e w' => e = .returned (.bool true) ∧ Ext w w' := by
  have hh := Lib.hid h
  have gg := Lib.hid g
  obtain ⟨A, cap, rfl, hcap, hmax, hc⟩ := h
  obtain ⟨B, capB, rfl, hcapB, hmaxB, hd⟩ := g
  unfold maxLen at hmax hmaxB
  clear hc hd
  obtain ⟨l, hl, hsrc, hgood⟩ := hh.out.open_
  replace hl := Lib.hid hl
  have hll : l.length = ws.length := by rw [← hl.out]; simp
  replace hsrc := Lib.hid hsrc
  replace hgood := Lib.hid hgood
  cases hL : lightB ws needs.length with
  | false =>
    go_enter Try.func10, Try.ntmps10
    go_wp2_with fail
    refine (c_light _ _ ws needs _ hh.out gg.out).mono ?_
    rintro e w1 ⟨rfl, rfl⟩
    rw [hL]
    go_wp2_with fail
    refine (c_alive _).mono ?_
    rintro e w1 ⟨rfl, he⟩
    replace he := Lib.hid he
    go_wp2_with fail
    go_ret
    exact ⟨rfl, he.out⟩
  | true =>
    have h14 : ws.length ≤ 14 := by simp [lightB] at hL; omega
    go_enter Try.func10, Try.ntmps10
    go_wp2_with fail
    refine (c_light _ _ ws needs _ hh.out gg.out).mono ?_
    rintro e w1 ⟨rfl, rfl⟩
    rw [hL]
    go_wp2_with fail
    clear hL
    replace hll := Lib.hid hll
    go_loopw [5, 6] (fun x i wr => ∃ k : Nat, k ≤ ws.length ∧ i = .int .i64 k ∧ OwnW w.heap.size wr x (oth l k) ∧ Ext w wr) (fun _ i _ => ws.length - (intOf i).toNat)
    case atStart => exact ⟨0, Nat.zero_le _, rfl, OwnW.nil _ _, Ext.refl _⟩
    case round =>
      obtain ⟨k, hk, rfl, hown, hext⟩ := hrel
      obtain ⟨A', cap', rfl⟩ := hown.slice
      replace hext := Lib.hid hext
      replace hown := Lib.hid hown
      by_cases hlt : k < ws.length
      · have hkl : k < l.length := by have := hll.out; omega
        obtain ⟨b, o, rfl, hc1, hc2⟩ := hsrc.out k hkl
        have hb : b < w.heap.size := World.block_lt_of_cell? w _ hc1
        replace hc2 := hext.out.cell hc2
        have hN : w.heap.size ≤ wr.heap.size := hext.out.size
        have i0 : (0 : Int) ≤ (k : Int) := by omega
        have i1 : (k : Int) < (ws.length : Int) := by omega
        have i2 : (k : Int) ≤ 14 := by omega
        have i3 : (k : Int) + 1 ≤ 14 := by omega
        have i4 : IntKind.i64.wrap ((k : Int) + 1) = (k : Int) + 1 := IntWalk.i64_in _ (by omega)
        have i5 : (0 : Int) ≤ (k : Int) + 1 := by omega
        have i6 : ((k : Int) + 1).toNat = k + 1 := by omega
        have i7 : (k : Int) ≤ (k : Int) + 1 := by omega
        have i8 : ¬ (9223372036854775807 < 1 + (min (k + 1) 14 - k)) := by omega
        rw [oth_len] at *
        clear hc1
        obtain ⟨MA, mcap, hmv⟩ := (hgood.out l[k] (List.getElem_mem hkl)).1.nat
        rw [hmv] at hc2
        replace hmv := Lib.hid hmv
        have hE1 : Ext wr (wr.drew.alloc (.cells #[.string (⟨#[119]⟩ ++ (⟨#[97, 98, 99, 100, 101, 102, 103, 104, 105, 106, 107, 108, 109, 110]⟩ : ByteArray).extract k (k + 1)), .slice MA l[k].1.mach.length mcap] 28)) := (Ext.refl _).drew.alloc _
        have hs1 := Lib.hid (show SrcW (wr.drew.alloc (.cells #[.string (⟨#[119]⟩ ++ (⟨#[97, 98, 99, 100, 101, 102, 103, 104, 105, 106, 107, 108, 109, 110]⟩ : ByteArray).extract k (k + 1)), .slice MA l[k].1.mach.length mcap] 28)) (some ⟨wr.heap.size, 0, none⟩) [((⟨wnm k, l[k].1.mach⟩, l[k].2) : EW)] from fun j hj => by
          have hB := Blk.new wr.drew 28 #[.string (⟨#[119]⟩ ++ (⟨#[97, 98, 99, 100, 101, 102, 103, 104, 105, 106, 107, 108, 109, 110]⟩ : ByteArray).extract k (k + 1)), .slice MA l[k].1.mach.length mcap]
          match j, hj with
          | 0, _ => exact ⟨_, 0, rfl, hB.cell 0, by rw [List.getElem_singleton, hmv.out]; exact hB.cell 1⟩)
        have hg1 := Lib.hid (show GoodW (wr.drew.alloc (.cells #[.string (⟨#[119]⟩ ++ (⟨#[97, 98, 99, 100, 101, 102, 103, 104, 105, 106, 107, 108, 109, 110]⟩ : ByteArray).extract k (k + 1)), .slice MA l[k].1.mach.length mcap] 28)) [((⟨wnm k, l[k].1.mach⟩, l[k].2) : EW)] from fun x hx => by
          obtain rfl := List.mem_singleton.1 hx
          exact ⟨((hgood.out l[k] (List.getElem_mem hkl)).1.ext hext.out).ext hE1, by have := wnm_size k; unfold maxLen; simp only []; omega⟩)
        have ho1 := Lib.hid (hown.out.ext hE1)
        replace hE1 := Lib.hid hE1
        have hlen1 : (oth l k).length + 1 ≤ 1000 := by rw [oth_len]; omega
        have hN1 : w.heap.size ≤ (wr.drew.alloc (.cells #[.string (⟨#[119]⟩ ++ (⟨#[97, 98, 99, 100, 101, 102, 103, 104, 105, 106, 107, 108, 109, 110]⟩ : ByteArray).extract k (k + 1)), .slice MA l[k].1.mach.length mcap] 28)).heap.size := by have := hE1.out.size; omega
        replace hlen1 := Lib.hid hlen1
        replace hN1 := Lib.hid hN1
        go_wp2_with fail
        go_region_held3 (fun w' => (∀ b o, b < w.heap.size → w'.cell? ⟨b, o, none⟩ = wr.cell? ⟨b, o, none⟩) ∧ Kp w.heap.size wr w')
          (first
            | exact (Kp.start hN).drew.both
            | exact ((Kp.start hN).drew.alloc _).both
            | exact (((Kp.start hN).drew.alloc _).grown hg2 (fun g hgg => hown.out.base g hgg)).both)
          (first
            | (rw [if_pos (by rfl)]; refine wp_appW (.tmp 22) (.tmp 34) rfl w.heap.size (.slice A' k cap') (oth l k) [((⟨wnm k, l[k].1.mach⟩, l[k].2) : EW)] (some ⟨wr.heap.size, 0, none⟩) 1 rfl ho1.out rfl hs1.out hg1.out hlen1.out hN1.out (.inl (by simp)) ?_; intro A2 cap2 w2 ho2 hg2))
        go_wp2_with fail
        go_roundw
        case rel => exact ⟨k + 1, by omega, by go_num, by rw [oth_succ l k hkl]; exact ho2, ho1.out.extGrown (hext.out.trans hE1.out) (Nat.le_refl _) hg2⟩
        case measure => simp [intOf]; omega
      · have hkn : k = l.length := by have := hll.out; omega
        have hgl := Lib.hid (hgood.out.ext hext.out)
        have hoth := Lib.hid (show RdW wr (.slice A' (oth l k).length cap') (othW ws) by
          have h1 : GoodW wr (oth l k) := by
            intro x hx
            unfold oth at hx
            simp only [List.mem_map, List.mem_range] at hx
            obtain ⟨i, hi, rfl⟩ := hx
            have hi' : i < l.length := by omega
            have h2 := hgl.out l[i] (List.getElem_mem hi')
            have e : l.getD i (⟨ByteArray.empty, []⟩, undef) = l[i] := by simp [hi']
            rw [e]
            exact ⟨h2.1, by have := wnm_size i; unfold maxLen; simp only []; omega⟩
          have h2 := hown.out.rdW h1
          rw [hkn] at h2 ⊢
          rw [oth_map, hl.out] at h2
          exact h2)
        have hws := Lib.hid (hh.out.ext hext.out)
        have hns := Lib.hid (gg.out.ext hext.out)
        clear hkn hown hgl
        go_wp2_with fail
        refine (c_skCheck _ ws _ hws.out).mono ?_
        rintro e w2 ⟨rfl, hE2⟩
        replace hE2 := Lib.hid hE2
        by_cases h0 : chkW ws = 0
        · have hE0 : (chkW ws != 0) = false := by simp [h0]
          replace h0 := Lib.hid h0
          go_wp2_with fail
          refine (c_matchAny _ _ ws needs _ (hws.out.ext hE2.out) (hns.out.ext hE2.out)).mono ?_
          rintro e w3 ⟨r3, rfl, hR3, _, hE3⟩
          replace hR3 := Lib.hid hR3
          replace hE3 := Lib.hid (hE2.out.trans hE3)
          go_wp2_with fail
          refine (c_matchAny _ _ (othW ws) needs _ (hoth.out.ext hE3.out) (hns.out.ext hE3.out)).mono ?_
          rintro e w4 ⟨r4, rfl, hR4, _, hE4⟩
          rw [othW_ask h0.out]
          rw [othW_mt h0.out] at hR4
          replace hR3 := Lib.hid (hR3.out.ext hE4)
          replace hR4 := Lib.hid hR4
          replace hE4 := Lib.hid (hE3.out.trans hE4)
          go_wp2_with fail
          refine (c_skCheck _ (othW ws) _ (hoth.out.ext hE4.out)).mono ?_
          rintro e w5 ⟨rfl, hE5⟩
          rw [othW_chk h0.out]
          replace hR3 := Lib.hid (hR3.out.ext hE5)
          replace hR4 := Lib.hid (hR4.out.ext hE5)
          replace hE5 := Lib.hid (hE4.out.trans hE5)
          go_wp2_with fail
          refine (c_same _ _ (mtL ws needs) (mtL ws needs) _ hR3.out hR4.out).mono ?_
          rintro e w6 ⟨rfl, hE6⟩
          rw [show sameI (mtL ws needs) (mtL ws needs) = true by simp [sameI]]
          replace hE6 := Lib.hid (hE5.out.trans hE6)
          have hq : (askE ws needs == askE ws needs) = true := by simp
          go_wp2_with fail
          refine (c_alive _).mono ?_
          rintro e w7 ⟨rfl, hE7⟩
          replace hE7 := Lib.hid (hE6.out.trans hE7)
          go_wp2_with fail
          go_ret
          exact ⟨rfl, hext.out.trans hE7.out⟩
        · have hE0 : (chkW ws != 0) = true := by simp [h0]
          replace h0 := Lib.hid h0
          go_wp2_with fail
          refine (c_alive _).mono ?_
          rintro e w7 ⟨rfl, hE7⟩
          replace hE7 := Lib.hid (hE2.out.trans hE7)
          go_wp2_with fail
          go_ret
          exact ⟨rfl, hext.out.trans hE7.out⟩
end Go.Proofs.Ythfcllefmeoicaa
