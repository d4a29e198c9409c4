/- Print of the program. -/
import Derived.Test.YtphaigncbenmmaaGreatDoorHas
import Derived.Test.YtphaigncbenmmaaGreatDoorChk
import Derived.Test.YtphaigncbenmmaaGreatDoorStp
import Derived.Shelf.Strings.BuilderK
import Derived.Deep.RegionLaw
namespace Go.Proofs.YtphaigncbenmmaaGreatDoor
open Go Go.RowKit

theorem Blk.others {w w' : World} {g b : Nat} {t E : TypeId} {cs : Array Value} (h : Blk w g t cs) (hk : Lib.OthersKept E (some b) w w') (hb : g ≠ b) (ht : t ≠ E) : Blk w' g t cs :=
  hk g _ h (fun e => hb (Option.some.inj e)) (fun c fz e => by injection e with _ e2 _; exact ht e2)
theorem builderF_kept {B b : Nat} {l : List Value} {w w' : World} (h : Lib.IsBuilderF 62 5 B b l w) (he : Ext w w') : Lib.IsBuilderF 62 5 B b l w' := by
  have key : ∀ p, Lib.BuilderAtF 62 5 B b p l w → Lib.BuilderAtF 62 5 B b p l w' := by
    rintro p ⟨hB, v, hb, hown, hne⟩
    refine ⟨hB, v, he.heap hb, ?_, hne⟩
    refine World.ownsRowF.kept hown (row := none) ⟨he.below.os, he.below.tape, he.below.output, he.size, fun i hi _ => he.below.block i hi⟩ ?_
    cases v.ownBlock <;> simp
  rcases h with h | h
  · exact .inl (key _ h)
  · exact .inr (key _ h)

/-- WriteString in this seat's words -/
theorem l_write (B b : Nat) (l : List UInt8) (s : ByteArray) (w : World) (h : Lib.IsBuilderF 62 5 B b (Lib.byteCells l) w) (hlen : l.length + s.size ≤ 1000000) (hBw : B ≤ w.heap.size) :
    Calls Tryz.prog 33 #[.pointer (some ⟨b, 0, none⟩), .string s] w fun e w' => e = .returned (.tuple #[.int .i64 s.size, .nilIface]) ∧ Lib.IsBuilderF 62 5 B b (Lib.byteCells (l ++ bs s)) w' ∧ Below B w w' ∧ Lib.OthersKept 5 (some b) w w' := by
  refine (Any.Builder_WriteString_k Tryz.lays166 Tryz.Builder_Extra_166 B b (Lib.byteCells l) s w h (by rw [Lib.byteCells_length]; omega) hBw).mono ?_
  rintro e w' ⟨rfl, h1, h2, h3⟩
  refine ⟨rfl, .inr ?_, h2, h3⟩
  have e1 : Lib.byteCells (l ++ bs s) = Lib.byteCells l ++ Lib.strCells s := by unfold Lib.byteCells Lib.strCells bs; rw [List.map_append]
  rw [e1]; exact h1

/-- how Print ends -/
def PriOut (l : List Ro) (w : World) (e : Ending) (w' : World) : Prop := e = .returned (.tuple #[.string (ofB (print l).1), .int .i64 (print l).2]) ∧ Ext w w'
theorem PriOut.mk {l : List Ro} {w w' : World} {t : B} {c : Int} (h : print l = (t, c)) (he : Ext w w') : PriOut l w (.returned (.tuple #[.string (ofB t), .int .i64 c])) w' := by
  unfold PriOut; rw [h]; exact ⟨rfl, he⟩
theorem PriOut.open_ {l : List Ro} {t : B} {c : Int} {w w' : World} {e : Ending} (h : PriOut l w e w') (hr : print l = (t, c)) : e = .returned (.tuple #[.string (ofB t), .int .i64 c]) ∧ Ext w w' := by
  unfold PriOut at h; rw [hr] at h; exact h
theorem ofB_nil : ofB [] = ⟨#[]⟩ := rfl
theorem print_few {l : List Ro} (h : ¬ 20 < l.length) : print l = goQ [] l := by unfold print; rw [if_neg h]

theorem headN_range {r : Ro} (h : Valid r) : ∀ n ∈ headN r, -1048576 ≤ n ∧ n ≤ 1048576 := by
  have h1 := h.len
  have h2 := h.wid
  have h3 := h.tone
  intro n hn
  simp only [headN, List.mem_cons, List.not_mem_nil, or_false] at hn
  rcases hn with rfl | rfl | rfl | rfl | rfl <;> omega
def flN (f : Fl) : List Int := [f.x, f.y, f.w, f.h]
theorem flN_range {r : Ro} (h : Valid r) {f : Fl} (hf : f ∈ r.fl) : ∀ n ∈ flN f, -1048576 ≤ n ∧ n ≤ 1048576 := by
  have h1 := h.len
  have h2 := h.wid
  have h4 := h.flaw f hf
  intro n hn
  simp only [flN, List.mem_cons, List.not_mem_nil, or_false] at hn
  rcases hn with rfl | rfl | rfl | rfl <;> omega
def numA (l : List Int) : Array Value := (l.map (Value.int .i64)).toArray
theorem numA_cell {w : World} {g : Nat} {l : List Int} (h : Blk w g 3 (numA l)) (j : Nat) (hj : j < l.length) : w.cell? ⟨g, j, none⟩ = some (.int .i64 l[j]) := by
  rw [h.cell]; simp [numA, hj]
theorem bs_sp (n : Int) : bs (⟨#[32]⟩ ++ ofB (Lib.itoa n)) = 32 :: Lib.itoa n := by
  rw [show (⟨#[32]⟩ : ByteArray) = ofB [32] from rfl, ofB_app, bs_ofB]; rfl

/-- one round of writing numbers: behind it the builder holds one number more -/
structure NumsAt (w : World) (T : B) (l : List Int) (ga : Nat) (gr : Nat) (rc : Array Value) (wr : World) (j : Nat) : Prop where
  le : j ≤ l.length
  bu : Lib.IsBuilderF 62 5 w.heap.size w.heap.size (Lib.byteCells (T ++ sp (l.take j))) wr
  ext : Ext w wr
  arr : Blk wr ga 3 (numA l)
  box : Blk wr gr 26 rc

/-- the same without the roll's box -/
structure NumsBt (w : World) (T : B) (l : List Int) (ga : Nat) (wr : World) (j : Nat) : Prop where
  le : j ≤ l.length
  bu : Lib.IsBuilderF 62 5 w.heap.size w.heap.size (Lib.byteCells (T ++ sp (l.take j))) wr
  ext : Ext w wr
  arr : Blk wr ga 3 (numA l)
/-- the first j flaws are written -/
structure FlsAt (w : World) (T : B) (r : Ro) (wr : World) (j : Nat) : Prop where
  le : j ≤ r.fl.length
  bu : Lib.IsBuilderF 62 5 w.heap.size w.heap.size (Lib.byteCells (T ++ upT r j)) wr
  ext : Ext w wr
  lt : w.heap.size < wr.heap.size

set_option maxRecDepth 20000 in
set_option maxHeartbeats 4000000 in
theorem c_print (l : List Ro) (v : Value) (w : World) (h : RdR w v l) (ht : Tab w) (hids : ∀ r ∈ l, r.id.length ≤ 30000) : Calls Tryz.prog 17 #[v] w (PriOut l w) := by
  have hrd := Lib.hid h
  obtain ⟨A, c, rfl, hcap, hmax, hc⟩ := h
  unfold maxLen at hmax
  replace hc := Lib.hid hc
  replace ht := Lib.hid ht
  replace hids := Lib.hid hids
  go_enter Tryz.func17, Tryz.ntmps17
  by_cases h20 : 20 < l.length
  · go_wp2
    go_ret2
    exact PriOut.mk (t := []) (by unfold print; rw [if_pos h20]) (Ext.refl w)
  have hpf := Lib.hid (print_few h20)
  go_wp2
  obtain ⟨w0, hw0⟩ : ∃ w0, w0 = w.alloc (.cells #[.pointer none, .slice none 0 0] 62) := ⟨_, rfl⟩
  have hbu0 := Lib.hid (show Lib.IsBuilderF 62 5 w.heap.size w.heap.size (Lib.byteCells (textT (l.take 0))) w0 from hw0 ▸ Lib.IsBuilderF.of (Lib.fresh_isBuilder 62 5 w))
  have hE0 := Lib.hid (show Ext w w0 from hw0 ▸ (Ext.refl w).alloc _)
  have hs0 := Lib.hid (show w.heap.size < w0.heap.size by rw [hw0]; simp)
  rw [← hw0]
  clear hw0
  go_loopw [19] (fun i wr => ∃ k : Nat, k ≤ l.length ∧ i = .int .i64 (k : Nat) ∧ PriUp l k ∧ Lib.IsBuilderF 62 5 w.heap.size w.heap.size (Lib.byteCells (textT (l.take k))) wr ∧ Ext w wr ∧ w.heap.size < wr.heap.size) (fun i _ => l.length - (intOf i).toNat)
  case atStart => exact ⟨0, Nat.zero_le _, rfl, PriUp.start l, hbu0.out, hE0.out, hs0.out⟩
  case round =>
    obtain ⟨k, hk, rfl, hup, hbu, hX, hsr⟩ := hrel
    obtain ⟨wq, hwq⟩ : ∃ wq, wq = wr := ⟨_, rfl⟩
    subst hwq
    replace hbu := Lib.hid hbu
    by_cases hlt : k < l.length
    · obtain ⟨b, o, fv, rfl, hf, c0, c1, c2, c3, c4, c5, c6⟩ := hc.out k hlt
      obtain ⟨Af, cf, rfl⟩ := hf.slice
      have hid := Lib.hid (hids.out _ (List.getElem_mem hlt))
      have hno := Lib.hid (fun h => hup.chk hlt h)
      have htw := Lib.hid (fun h1 h2 => hup.twice hlt h1 h2)
      have hnx := Lib.hid (fun h1 h2 => hup.next hlt h1 h2)
      have hsn := Lib.hid (textT_snoc hlt)
      have hln := Lib.hid hup.len
      obtain ⟨r, hr⟩ : ∃ r, r = l[k] := ⟨_, rfl⟩
      rw [← hr] at hf hid hno htw hnx hsn c0 c1 c2 c3 c4 c5 c6
      replace c0 := hX.cell c0
      replace c1 := hX.cell c1
      replace c2 := hX.cell c2
      replace c3 := hX.cell c3
      replace c4 := hX.cell c4
      replace c5 := hX.cell c5
      replace c6 := hX.cell c6
      have hrdk := Lib.hid ((hrd.out.take k hk).ext hX)
      replace hf := Lib.hid hf
      replace hX := Lib.hid hX
      replace hup := Lib.hid hup
      clear hr
      have hki : (k : Int) < l.length := by omega
      have hkc : (k : Int) ≤ c := by omega
      go_wp2_with fail
      refine (c_check r _ _ (hf.out.ext (hX.out.alloc _)) hid.out).mono ?_
      rintro e w1 ⟨rfl, hx1⟩
      have hb1 := Lib.hid ((Blk.new wq 26 (roC r (.slice Af r.fl.length cf)).toArray).ext hx1)
      have hW1 := Lib.hid (((Ext.refl wq).alloc (.cells (roC r (.slice Af r.fl.length cf)).toArray 26)).trans hx1)
      clear hx1 c0 c1 c2 c3 c4 c5 c6
      by_cases hck : check r = 0
      rotate_left
      · have hn0 : (check r == 0) = false := by simp; exact hck
        have hq := Lib.hid (hno.out hck)
        replace hck := Lib.hid hck
        go_wp2
        go_ret2
        exact PriOut.mk (t := []) (hpf.out.trans hq.out) (hX.out.trans hW1.out)
      · rw [hck]
        have hv := Lib.hid (check_ok hck)
        replace hck := Lib.hid hck
        have q0 : w1.cell? ⟨wq.heap.size, 0, none⟩ = some (.string (ofB r.id)) := hb1.out.cell 0
        have hlt1 := hb1.out.lt
        have hrd1 := Lib.hid (hrdk.out.ext hW1.out)
        have hcon := Lib.hid (c_hasId _ (l.take k) (ofB r.id) w1.drew (hrd1.out.ext (Ext.refl w1).drew))
        go_wp2_with fail
        go_region_law (go_simp; go_at_call 29; (with_reducible refine hcon.out.mono ?_); rintro e w2 ⟨rfl, hx2⟩; replace hx2 := Lib.hid hx2)
        have hW2 := Lib.hid (hW1.out.trans ((Ext.refl w1).drew.trans hx2.out))
        have hb2 := Lib.hid (hb1.out.ext ((Ext.refl w1).drew.trans hx2.out))
        clear q0 hlt1 hrd1 hrdk hcon
        rw [bs_ofB]
        rcases hh : has (l.take k) r.id with _ | _
        rotate_left
        · have hq := Lib.hid (htw.out hck.out hh)
          replace hh := Lib.hid hh
          go_wp2
          go_ret2
          exact PriOut.mk (t := []) (hpf.out.trans hq.out) (hX.out.trans hW2.out)
        · have hup2 := Lib.hid (hnx.out hck.out hh)
          replace hh := Lib.hid hh
          have hE2 := Lib.hid (hX.out.trans hW2.out)
          have hbu2 := Lib.hid (builderF_kept hbu.out hW2.out)
          have hs2 := Lib.hid hE2.out.size
          have q0 : w2.cell? ⟨wq.heap.size, 0, none⟩ = some (.string (ofB r.id)) := hb2.out.cell 0
          have hlt2 := hb2.out.lt
          have hi8 : (ofB r.id).size ≤ 8 := by
            have := hv.out.id
            simp only [idOk, Bool.and_eq_true, decide_eq_true_eq] at this
            rw [ofB_size]; omega
          have hne : wq.heap.size ≠ w.heap.size := by omega
          have h794 : 794 * k ≤ 15880 := by omega
          go_wp2_with fail
          refine (l_write w.heap.size w.heap.size (textT (l.take k)) _ _ hbu2.out (by have := hln.out; rw [ByteArray.size_append]; show _ + (5 + _) ≤ _; omega) hs2.out).mono ?_
          rintro e w3 ⟨rfl, hbu3, hB3, hO3⟩
          rw [show bs (⟨#[114, 111, 108, 108, 32]⟩ ++ ofB r.id) = Troll ++ 32 :: r.id by
            rw [show (⟨#[114, 111, 108, 108, 32]⟩ : ByteArray) = ofB (Troll ++ [32]) from rfl, ofB_app, bs_ofB]; simp] at hbu3
          have hE3 := Lib.hid (hE2.out.trans_below hB3)
          have hb3 := hb2.out.others hO3 hne (by decide)
          clear q0 hlt2 hbu2 hs2
          obtain ⟨q0, q1, q2, q3, q4, q5, q6⟩ := hb3.parts7
          have hlt3 := hb3.lt
          replace hb3 := Lib.hid hb3
          replace hbu3 := Lib.hid hbu3
          replace hB3 := Lib.hid hB3
          replace hO3 := Lib.hid hO3
          go_wp2
          obtain ⟨w4, hw4⟩ : ∃ w4, w4 = w3.alloc (.cells (numA (headN r)) 3) := ⟨_, rfl⟩
          have ha4 := Lib.hid (show Blk w4 w3.heap.size 3 (numA (headN r)) from hw4 ▸ Blk.new w3 3 _)
          have hx4 := Lib.hid (show Ext w3 w4 from hw4 ▸ (Ext.refl w3).alloc _)
          rw [show w3.alloc (.cells #[.int .i64 r.len, .int .i64 r.wid, .int .i64 r.tl, .int .i64 r.ta, .int .i64 r.tb] 3) = w4 from hw4.symm]
          clear hw4 q0 q1 q2 q3 q4 q5 q6 hlt3
          have hrg := Lib.hid (headN_range hv.out)
          have hs7 := Lib.hid hv.out.short.1
          have hga : w3.heap.size ≠ w.heap.size := by have := hE3.out.size; have := hb3.out.lt; omega
          have ha0 := Lib.hid (NumsAt.mk (w := w) (T := textT (l.take k) ++ (Troll ++ 32 :: r.id)) (l := headN r) (ga := w3.heap.size) (gr := wq.heap.size) (rc := (roC r (.slice Af r.fl.length cf)).toArray) (wr := w4) (j := 0) (Nat.zero_le _) (by
            have : sp ((headN r).take 0) = [] := rfl
            rw [this, List.append_nil]; exact builderF_kept hbu3.out hx4.out) (hE3.out.trans hx4.out) ha4.out (hb3.out.ext hx4.out))
          have hTl : (textT (l.take k) ++ (Troll ++ 32 :: r.id)).length ≤ 15900 := by
            have := hln.out
            have h8 : r.id.length ≤ 8 := hi8
            rw [List.length_append, List.length_append, List.length_cons]
            show _ + (4 + _) ≤ _
            omega
          obtain ⟨T, hT⟩ : ∃ T, T = textT (l.take k) ++ (Troll ++ 32 :: r.id) := ⟨_, rfl⟩
          rw [← hT] at ha0 hTl
          replace hT := Lib.hid hT
          go_loopw [54] (fun i wr' => ∃ j : Nat, i = .int .i64 (j : Nat) ∧ NumsAt w T (headN r) w3.heap.size wq.heap.size (roC r (.slice Af r.fl.length cf)).toArray wr' j) (fun i _ => 5 - (intOf i).toNat)
          case atStart => exact ⟨0, rfl, ha0.out⟩
          case round =>
            obtain ⟨j, rfl, hna⟩ := hrel
            obtain ⟨wr', hwr'⟩ : ∃ wr', wr' = wr := ⟨_, rfl⟩
            subst hwr'
            have hj5 : j ≤ 5 := hna.le
            by_cases hjl : j < 5
            · have hjh : j < (headN r).length := hjl
              have ca := numA_cell hna.arr j hjh
              obtain ⟨hn1, hn2⟩ := hrg.out _ (List.getElem_mem hjh)
              have hn7 := hs7.out _ (List.getElem_mem hjh)
              have hsj := Lib.hid (sp_snoc (headN r) j hjh)
              have hsl := Lib.hid (sp_take_len (headN r) j hs7.out)
              obtain ⟨n, hn⟩ : ∃ n, n = (headN r)[j] := ⟨_, rfl⟩
              rw [← hn] at ca hn1 hn2 hn7 hsj
              clear hn
              have hlga := hna.arr.lt
              replace hna := Lib.hid hna
              have hji : (j : Int) < 5 := by omega
              go_wp2_with fail
              refine (l_itoa n (by omega) (by omega) _ (ht.out.ext hna.out.ext)).mono ?_
              rintro e w5 ⟨rfl, hx5⟩
              have hb5 := Lib.hid (builderF_kept hna.out.bu hx5)
              have hE5 := Lib.hid (hna.out.ext.trans hx5)
              have hs5 := Lib.hid hE5.out.size
              have har5 := Lib.hid (hna.out.arr.ext hx5)
              have hbx5 := Lib.hid (hna.out.box.ext hx5)
              have hzn : (ofB (Lib.itoa n)).size ≤ 7 := hn7
              replace hx5 := Lib.hid hx5
              clear ca hlga
              go_wp2_with fail
              refine (l_write w.heap.size w.heap.size (T ++ sp ((headN r).take j)) _ _ hb5.out (by have := hsl.out; have h5 : (headN r).length = 5 := rfl; rw [ByteArray.size_append, List.length_append]; show _ + (1 + _) ≤ _; omega) hs5.out).mono ?_
              rintro e w6 ⟨rfl, hbu6, hB6, hO6⟩
              rw [bs_sp, List.append_assoc, ← hsj.out] at hbu6
              replace hbu6 := Lib.hid hbu6
              replace hB6 := Lib.hid hB6
              replace hO6 := Lib.hid hO6
              go_wp2
              go_roundw
              case rel => exact ⟨j + 1, by go_num, ⟨hjl, hbu6.out, hE5.out.trans_below hB6.out, har5.out.others hO6.out hga (by decide), hbx5.out.others hO6.out hne (by decide)⟩⟩
              case measure => simp [intOf]; omega
            · have hbd := Lib.hid (show Lib.IsBuilderF 62 5 w.heap.size w.heap.size (Lib.byteCells (textT (l.take k) ++ upT r 0)) wr' by
                have := hna.bu
                rw [sp_all _ _ (show ¬ j < (headN r).length from hjl), hT.out] at this
                rw [upT_zero]
                simpa using this)
              have q6 : wr'.cell? ⟨wq.heap.size, 6, none⟩ = some (.slice Af r.fl.length cf) := hna.box.cell 6
              have hltb := hna.box.lt
              have hEb := Lib.hid hna.ext
              have hf0 := Lib.hid (FlsAt.mk (w := w) (T := textT (l.take k)) (r := r) (wr := wr') (j := 0) (Nat.zero_le _) hbd.out hEb.out (by omega))
              replace hna := Lib.hid hna
              obtain ⟨Ag, cg, eg, hg1, hg2, _, hgc⟩ := hf.out
              injection eg with e1 _ e2
              subst e1 e2
              unfold maxLen at hg2
              replace hgc := Lib.hid hgc
              have hji : ¬ (j : Int) < 5 := by omega
              go_wp2
              clear q6 hltb hbd
              go_loopw [66] (fun i wr2 => ∃ j2 : Nat, i = .int .i64 (j2 : Nat) ∧ FlsAt w (textT (l.take k)) r wr2 j2) (fun i _ => r.fl.length - (intOf i).toNat)
              case atStart => exact ⟨0, rfl, hf0.out⟩
              case round =>
                obtain ⟨j2, rfl, hfa⟩ := hrel
                obtain ⟨wr2, hwr2⟩ : ∃ wr2, wr2 = wr := ⟨_, rfl⟩
                subst hwr2
                have hj2 := hfa.le
                have hul := Lib.hid (upT_len hv.out j2)
                by_cases hjl2 : j2 < r.fl.length
                · obtain ⟨b2, o2, rfl, d0, d1, d2, d3⟩ := hgc.out j2 hjl2
                  have hsu := Lib.hid (upT_snoc r j2 hjl2)
                  have hfrg := Lib.hid (flN_range hv.out (List.getElem_mem hjl2))
                  have hfs7 := Lib.hid (hv.out.short.2 _ (List.getElem_mem hjl2))
                  obtain ⟨f, hff⟩ : ∃ f, f = r.fl[j2] := ⟨_, rfl⟩
                  rw [← hff] at d0 d1 d2 d3 hsu hfrg hfs7
                  clear hff
                  replace d0 := hfa.ext.cell d0
                  replace d1 := hfa.ext.cell d1
                  replace d2 := hfa.ext.cell d2
                  replace d3 := hfa.ext.cell d3
                  have hlt2 := hfa.lt
                  replace hfa := Lib.hid hfa
                  have hji2 : (j2 : Int) < r.fl.length := by omega
                  have hne2 : wr2.heap.size ≠ w.heap.size := by omega
                  go_wp2_with fail
                  refine (l_write w.heap.size w.heap.size (textT (l.take k) ++ upT r j2) _ _ (builderF_kept hfa.out.bu ((Ext.refl wr2).alloc _)) (by have := hln.out; have := hul.out; rw [List.length_append]; show _ + 5 ≤ _; omega) (by simp; omega)).mono ?_
                  rintro e w5 ⟨rfl, hbu5, hB5, hO5⟩
                  have hbf := (Blk.new wr2 47 (flC f).toArray).others hO5 hne2 (by decide)
                  have hE5 := Lib.hid ((hfa.out.ext.alloc (.cells (flC f).toArray 47)).trans_below hB5)
                  clear d0 d1 d2 d3
                  obtain ⟨d0, d1, d2, d3⟩ := hbf.parts4
                  have hlt5 := hbf.lt
                  rw [show bs ⟨#[32, 102, 108, 97, 119]⟩ = 32 :: Tflaw from rfl] at hbu5
                  replace hbf := Lib.hid hbf
                  replace hbu5 := Lib.hid hbu5
                  replace hB5 := Lib.hid hB5
                  replace hO5 := Lib.hid hO5
                  go_wp2
                  obtain ⟨w6, hw6⟩ : ∃ w6, w6 = w5.alloc (.cells (numA (flN f)) 3) := ⟨_, rfl⟩
                  have ha6 := Lib.hid (show Blk w6 w5.heap.size 3 (numA (flN f)) from hw6 ▸ Blk.new w5 3 _)
                  have hx6 := Lib.hid (show Ext w5 w6 from hw6 ▸ (Ext.refl w5).alloc _)
                  rw [show w5.alloc (.cells #[.int .i64 f.x, .int .i64 f.y, .int .i64 f.w, .int .i64 f.h] 3) = w6 from hw6.symm]
                  clear hw6 d0 d1 d2 d3 hlt5
                  have hga2 : w5.heap.size ≠ w.heap.size := by have := hbf.out.lt; omega
                  have hsz5 := Lib.hid (show w.heap.size < w5.heap.size by have := hbf.out.lt; omega)
                  have ha0' := Lib.hid (NumsBt.mk (w := w) (T := textT (l.take k) ++ upT r j2 ++ (32 :: Tflaw)) (l := flN f) (ga := w5.heap.size) (wr := w6) (j := 0) (Nat.zero_le _) (by
                    have : sp ((flN f).take 0) = [] := rfl
                    rw [this, List.append_nil]; exact builderF_kept hbu5.out hx6.out) (hE5.out.trans hx6.out) ha6.out)
                  have hTl2 : (textT (l.take k) ++ upT r j2 ++ (32 :: Tflaw)).length ≤ 16700 := by
                    have := hln.out
                    have := hul.out
                    rw [List.length_append, List.length_append, List.length_cons]
                    show _ + (4 + 1) ≤ _
                    omega
                  obtain ⟨T2, hT2⟩ : ∃ T2, T2 = textT (l.take k) ++ upT r j2 ++ (32 :: Tflaw) := ⟨_, rfl⟩
                  rw [← hT2] at ha0' hTl2
                  replace hT2 := Lib.hid hT2
                  go_loopw [81] (fun i wr3 => ∃ j3 : Nat, i = .int .i64 (j3 : Nat) ∧ NumsBt w T2 (flN f) w5.heap.size wr3 j3) (fun i _ => 4 - (intOf i).toNat)
                  case atStart => exact ⟨0, rfl, ha0'.out⟩
                  case round =>
                    obtain ⟨j3, rfl, hnb⟩ := hrel
                    obtain ⟨wr3, hwr3⟩ : ∃ wr3, wr3 = wr := ⟨_, rfl⟩
                    subst hwr3
                    have hj4 : j3 ≤ 4 := hnb.le
                    by_cases hjl3 : j3 < 4
                    · have hjh : j3 < (flN f).length := hjl3
                      have ca := numA_cell hnb.arr j3 hjh
                      obtain ⟨hn1, hn2⟩ := hfrg.out _ (List.getElem_mem hjh)
                      have hn7 := hfs7.out _ (List.getElem_mem hjh)
                      have hsj := Lib.hid (sp_snoc (flN f) j3 hjh)
                      have hsl := Lib.hid (sp_take_len (flN f) j3 hfs7.out)
                      obtain ⟨n, hn⟩ : ∃ n, n = (flN f)[j3] := ⟨_, rfl⟩
                      have hn7 : (Lib.itoa n).length ≤ 7 := by rw [hn]; exact hn7
                      rw [← hn] at ca hn1 hn2 hsj
                      clear hn
                      have hlga := hnb.arr.lt
                      replace hnb := Lib.hid hnb
                      have hji3 : (j3 : Int) < 4 := by omega
                      go_wp2_with fail
                      refine (l_itoa n (by omega) (by omega) _ (ht.out.ext hnb.out.ext)).mono ?_
                      rintro e w7 ⟨rfl, hx7⟩
                      have hb7 := Lib.hid (builderF_kept hnb.out.bu hx7)
                      have hE7 := Lib.hid (hnb.out.ext.trans hx7)
                      have hs8 := Lib.hid hE7.out.size
                      have har7 := Lib.hid (hnb.out.arr.ext hx7)
                      have hzn : (ofB (Lib.itoa n)).size ≤ 7 := hn7
                      replace hx7 := Lib.hid hx7
                      clear ca hlga
                      go_wp2_with fail
                      refine (l_write w.heap.size w.heap.size (T2 ++ sp ((flN f).take j3)) _ _ hb7.out (by have := hsl.out; have h5 : (flN f).length = 4 := rfl; rw [ByteArray.size_append, List.length_append]; show _ + (1 + _) ≤ _; omega) hs8.out).mono ?_
                      rintro e w8 ⟨rfl, hbu8, hB8, hO8⟩
                      rw [bs_sp, List.append_assoc, ← hsj.out] at hbu8
                      replace hbu8 := Lib.hid hbu8
                      replace hB8 := Lib.hid hB8
                      replace hO8 := Lib.hid hO8
                      go_wp2
                      go_roundw
                      case rel => exact ⟨j3 + 1, by go_num, ⟨hjl3, hbu8.out, hE7.out.trans_below hB8.out, har7.out.others hO8.out hga2 (by decide)⟩⟩
                      case measure => simp [intOf]; omega
                    · have hbd := Lib.hid (show Lib.IsBuilderF 62 5 w.heap.size w.heap.size (Lib.byteCells (textT (l.take k) ++ upT r (j2 + 1))) wr3 by
                        have := hnb.bu
                        rw [sp_all _ _ (show ¬ j3 < (flN f).length from hjl3), hT2.out] at this
                        rw [hsu.out]
                        simpa [flN] using this)
                      have hlt9 := hnb.arr.lt
                      replace hnb := Lib.hid hnb
                      have hji3 : ¬ (j3 : Int) < 4 := by omega
                      go_wp2
                      go_roundw
                      case rel => exact ⟨j2 + 1, by go_num, ⟨hjl2, hbd.out, hnb.out.ext, by have := hsz5.out; omega⟩⟩
                      case measure => simp [intOf]; omega
                · have hbd := Lib.hid (show Lib.IsBuilderF 62 5 w.heap.size w.heap.size (Lib.byteCells (textT (l.take k) ++ lineT r)) wr2 by
                    have := hfa.bu
                    rw [upT_all r j2 hjl2] at this
                    exact this)
                  have hll := Lib.hid (lineT_length hv.out)
                  have hlt9 := hfa.lt
                  replace hfa := Lib.hid hfa
                  have hji2 : ¬ (j2 : Int) < r.fl.length := by omega
                  go_wp2_with fail
                  refine (l_write w.heap.size w.heap.size (textT (l.take k) ++ lineT r) _ _ hbd.out (by have := hln.out; have := hll.out; rw [List.length_append]; show _ + 1 ≤ _; omega) (by omega)).mono ?_
                  rintro e w5 ⟨rfl, hbu5, hB5, hO5⟩
                  rw [show bs ⟨#[10]⟩ = [10] from rfl, List.append_assoc, ← hsn.out] at hbu5
                  have hsz5 := Lib.hid (show w.heap.size < w5.heap.size from Nat.lt_of_lt_of_le hlt9 hB5.size)
                  replace hbu5 := Lib.hid hbu5
                  replace hB5 := Lib.hid hB5
                  replace hO5 := Lib.hid hO5
                  go_wp2
                  go_roundw
                  case rel => exact ⟨k + 1, by omega, by go_num, hup2.out, hbu5.out, hfa.out.ext.trans_below hB5.out, hsz5.out⟩
                  case measure => simp [intOf]; omega
    · have hd := Lib.hid (hup.done hlt)
      have hta : l.take k = l := List.take_of_length_le (by omega)
      rw [hta] at hbu
      replace hta := Lib.hid hta
      replace hX := Lib.hid hX
      replace hup := Lib.hid hup
      go_wp2_with fail
      refine (Any.Builder_String_any_k Tryz.lays169 Tryz.Builder_Extra_169 w.heap.size w.heap.size (textT l) _ hbu.out (by omega)).mono ?_
      rintro e w8 ⟨rfl, _, hB8, _⟩
      replace hB8 := Lib.hid hB8
      go_wp2
      go_ret2
      exact PriOut.mk (t := textT l) (hpf.out.trans hd.out) (hX.out.trans_below hB8.out)

end Go.Proofs.YtphaigncbenmmaaGreatDoor
