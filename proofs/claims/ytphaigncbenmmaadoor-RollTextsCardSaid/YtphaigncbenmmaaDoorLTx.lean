/- RollTexts says yes of every text. -/
import Derived.Test.YtphaigncbenmmaaDoorAwk
import Derived.Test.YtphaigncbenmmaaDoorRst
namespace Go.Proofs.YtphaigncbenmmaaDoor
open Go Go.RowKit

theorem parse_cases (s : B) : (∃ c n, c ≠ 0 ∧ parse s = ([], c, n)) ∨ (∃ l n, parse s = (l, 0, n) ∧ print l = (dense s, 0) ∧ ∀ r ∈ l, r.id.length ≤ 30000) := by
  rcases h : parse s with ⟨l, c, n⟩
  by_cases hc : c = 0
  · subst hc
    have ht := texts h
    refine .inr ⟨l, n, rfl, ht, fun r hr => ?_⟩
    have hv : Valid r := by
      unfold print at ht
      split at ht
      · exact absurd (Prod.mk.inj ht).2 (by decide)
      · exact (goQ_ok l [] _ ht).2 r hr
    have := hv.id
    simp only [idOk, Bool.and_eq_true, decide_eq_true_eq] at this
    omega
  · have := parse_err h hc
    subst this
    exact .inl ⟨c, n, hc, rfl⟩

def denseL (ls : List B) : B := (ls.filter fun t => decide (t ≠ [])).flatMap fun t => t ++ [10]
theorem dense_eq (s : B) : dense s = denseL (cuts 10 s) := rfl
theorem denseL_app (a b : List B) : denseL (a ++ b) = denseL a ++ denseL b := by unfold denseL; rw [List.filter_append, List.flatMap_append]
theorem denseL_nil : denseL [[]] = [] := rfl
theorem denseL_one {t : B} (h : t ≠ []) : denseL [t] = t ++ [10] := by unfold denseL; simp [h]
theorem dense_step {ls : List ByteArray} {want x : ByteArray} (h : bs want = denseL (ls.map bs)) (hx : bs x ≠ []) : bs (want ++ (x ++ ⟨#[10]⟩)) = denseL ((ls ++ [x]).map bs) := by
  rw [List.map_append, denseL_app, ← h]
  show _ = bs want ++ denseL [bs x]
  rw [denseL_one hx]
  simp [bs]
theorem dense_same {ls : List ByteArray} {want x : ByteArray} (h : bs want = denseL (ls.map bs)) (hx : bs x = []) : bs want = denseL ((ls ++ [x]).map bs) := by
  rw [List.map_append, denseL_app, ← h]
  show _ = bs want ++ denseL [bs x]
  rw [hx, denseL_nil, List.append_nil]
theorem extract_nil {s : ByteArray} {m k : Nat} (h : ¬ m < k) : bs (s.extract m k) = [] := by
  rw [bs_extract, show k - m = 0 by omega]; rfl
theorem extract_full {s : ByteArray} {m k : Nat} (h : m < k) (hk : k ≤ s.size) : bs (s.extract m k) ≠ [] := by
  intro e
  have := congrArg List.length e
  rw [bs_len, ByteArray.size_extract] at this
  simp at this
  omega

/-- what the loop of RollTexts keeps: k bytes are read, the line begins at byte m, want holds the lines before it -/
structure TxA (s : ByteArray) (k m : Nat) (want : ByteArray) : Prop where
  at_ : (k ≤ s.size ∧ ∃ ls, SplUp 10 s k m ls ∧ bs want = denseL (ls.map bs)) ∨ (k = s.size + 1 ∧ bs want = dense (bs s))
  lo : m ≤ k
  le : k ≤ s.size + 1
  len : want.size ≤ m
section
variable {s want : ByteArray} {k m : Nat}
theorem TxA.start (s : ByteArray) : TxA s 0 0 ⟨#[]⟩ := ⟨.inl ⟨Nat.zero_le _, [], SplUp.start 10 s, rfl⟩, Nat.le_refl _, Nat.zero_le _, Nat.le_refl _⟩
theorem TxA.miss (h : TxA s k m want) (hk : k < s.size) (hc : s[k] ≠ 10) : TxA s (k + 1) m want := by
  rcases h.at_ with ⟨_, ls, hs, he⟩ | ⟨h1, _⟩
  · exact ⟨.inl ⟨hk, ls, hs.miss (by rw [bs_len]; exact hk) hc, he⟩, by have := h.lo; omega, by omega, h.len⟩
  · omega
/-- a line ends at byte k (a line feed, or the text's end) -/
theorem TxA.line (h : TxA s k m want) (hk : k ≤ s.size) (hc : ∀ h : k < s.size, s[k] = 10) {want' : ByteArray} (hw : (m < k ∧ want' = want ++ (s.extract m k ++ ⟨#[10]⟩)) ∨ (¬ m < k ∧ want' = want)) : TxA s (k + 1) (k + 1) want' := by
  have hmk := h.lo
  have hlen := h.len
  rcases h.at_ with ⟨_, ls, hs, he⟩ | ⟨h1, _⟩
  · have hd : bs want' = denseL ((ls ++ [s.extract m k]).map bs) := by
      rcases hw with ⟨h1, rfl⟩ | ⟨h1, rfl⟩
      · exact dense_step he (extract_full h1 hk)
      · exact dense_same he (extract_nil h1)
    have hl : want'.size ≤ k + 1 := by
      rcases hw with ⟨h1, rfl⟩ | ⟨h1, rfl⟩
      · rw [ByteArray.size_append, ByteArray.size_append, ByteArray.size_extract]
        show _ + (_ + 1) ≤ _
        omega
      · omega
    by_cases hlt : k < s.size
    · exact ⟨.inl ⟨hlt, _, hs.hit (by rw [bs_len]; exact hlt) (hc hlt), hd⟩, Nat.le_refl _, by omega, hl⟩
    · have hke : k = s.size := by omega
      refine ⟨.inr ⟨by omega, ?_⟩, Nat.le_refl _, by omega, hl⟩
      rw [hd, dense_eq]
      subst hke
      rw [hs.done rfl]
  · omega
theorem TxA.done (h : TxA s k m want) (hk : ¬ k ≤ s.size) : bs want = dense (bs s) := by
  rcases h.at_ with ⟨h1, _⟩ | ⟨_, h1⟩
  · exact absurd h1 hk
  · exact h1
end

set_option maxRecDepth 20000 in
set_option maxHeartbeats 2000000 in
theorem c_texts (s : ByteArray) (w : World) (ht : Tab w) (hs : s.size ≤ 9223372036854775807) : Calls Tryd.prog 4 #[.string s] w fun e w' => e = .returned (.bool true) ∧ Ext w w' := by
  replace ht := Lib.hid ht
  go_enter Tryd.func4, Tryd.ntmps4
  by_cases h21 : 21000 < s.size
  · go_wp2_with fail
    refine (c_example _ ht.out).mono ?_
    rintro e w2 ⟨rfl, hx⟩
    replace hx := Lib.hid hx
    go_wp2
    go_ret
    exact ⟨rfl, hx.out⟩
  · go_wp2_with fail
    refine (c_parse s _ ht.out hs).mono ?_
    intro e w1 he
    rcases parse_cases (bs s) with ⟨c, n, hc, hp⟩ | ⟨l, n, hp, hpr, hids⟩
    · obtain ⟨A, cc, rfl, _, hx⟩ := he.open_ hp
      have hn0 : (c == 0) = false := by simp; exact hc
      replace hp := Lib.hid hp
      clear he
      have hE1 := Lib.hid hx
      clear hx
      go_wp2_with fail
      refine (c_example _ (ht.out.ext hE1.out)).mono ?_
      rintro e w3 ⟨rfl, hx⟩
      replace hx := Lib.hid hx
      go_wp2
      go_ret
      exact ⟨rfl, hE1.out.trans hx.out⟩
    · obtain ⟨A, cc, rfl, hl, hx⟩ := he.open_ hp
      replace hp := Lib.hid hp
      replace hpr := Lib.hid hpr
      replace hids := Lib.hid hids
      replace hl := Lib.hid hl
      clear he
      have hE1 := Lib.hid hx
      clear hx
      go_wp2
      go_loop [6, 7, 8] (fun v f i => ∃ (k m : Nat) (want : ByteArray), v = .string want ∧ f = .int .i64 (m : Nat) ∧ i = .int .i64 (k : Nat) ∧ TxA s k m want) (fun _ _ i => s.size + 1 - (intOf i).toNat)
      case atStart => exact ⟨0, 0, ⟨#[]⟩, rfl, rfl, rfl, TxA.start s⟩
      case round =>
        obtain ⟨k, m, want, rfl, rfl, rfl, hup⟩ := hrel
        have hmk := hup.lo
        have hle := hup.le
        have hln := hup.len
        by_cases hk : k ≤ s.size
        · have hki : (k : Int) ≤ s.size := by omega
          have hz0 : (s.extract m k).size ≤ 21000 := by rw [ByteArray.size_extract]; omega
          by_cases hlt : k < s.size
          · have hkl : (k : Int) < s.size := by omega
            by_cases hc : s[k] = 10
            · have hb : ((s[k].toNat : Int) == 10) = true := by rw [hc]; rfl
              have hline := Lib.hid (fun want' hw => hup.line hk (fun _ => hc) (want' := want') hw)
              replace hup := Lib.hid hup
              by_cases hmk2 : m < k
              · have hm2 : (m : Int) < k := by omega
                have hup2 := Lib.hid (hline.out _ (.inl ⟨hmk2, rfl⟩))
                go_wp2
                go_round
                case rel => exact ⟨k + 1, k + 1, _, rfl, by go_num, by go_num, hup2.out⟩
                case measure => simp [intOf]; omega
              · have hm2 : ¬ (m : Int) < k := by omega
                have hup2 := Lib.hid (hline.out _ (.inr ⟨hmk2, rfl⟩))
                go_wp2
                go_round
                case rel => exact ⟨k + 1, k + 1, _, rfl, by go_num, by go_num, hup2.out⟩
                case measure => simp [intOf]; omega
            · have hb : ((s[k].toNat : Int) == 10) = false := by
                rw [beq_eq_false_iff_ne]
                intro e
                apply hc
                apply UInt8.toNat_inj.1
                show s[k].toNat = 10
                omega
              have hup2 := Lib.hid (hup.miss hlt hc)
              replace hup := Lib.hid hup
              go_wp2
              go_round
              case rel => exact ⟨k + 1, m, want, rfl, rfl, by go_num, hup2.out⟩
              case measure => simp [intOf]; omega
          · have hkl : ¬ (k : Int) < s.size := by omega
            have hline := Lib.hid (fun want' hw => hup.line hk (fun h => absurd h hlt) (want' := want') hw)
            replace hup := Lib.hid hup
            by_cases hmk2 : m < k
            · have hm2 : (m : Int) < k := by omega
              have hup2 := Lib.hid (hline.out _ (.inl ⟨hmk2, rfl⟩))
              go_wp2
              go_round
              case rel => exact ⟨k + 1, k + 1, _, rfl, by go_num, by go_num, hup2.out⟩
              case measure => simp [intOf]; omega
            · have hm2 : ¬ (m : Int) < k := by omega
              have hup2 := Lib.hid (hline.out _ (.inr ⟨hmk2, rfl⟩))
              go_wp2
              go_round
              case rel => exact ⟨k + 1, k + 1, _, rfl, by go_num, by go_num, hup2.out⟩
              case measure => simp [intOf]; omega
        · have hd := Lib.hid (hup.done hk)
          have hki : ¬ (k : Int) ≤ s.size := by omega
          replace hup := Lib.hid hup
          go_wp2_with fail
          refine (c_print l _ _ hl.out (ht.out.ext hE1.out) hids.out).mono ?_
          intro e w2 he
          obtain ⟨rfl, hx⟩ := he.open_ hpr.out
          have hE2 := Lib.hid (hE1.out.trans hx)
          clear he hx
          have hwd : ofB (dense (bs s)) = want := by rw [← hd.out]; exact ofB_bs want
          rw [hwd]
          replace hwd := Lib.hid hwd
          have hsame : (want.toList == want.toList) = true := by simp
          go_wp2_with fail
          refine (c_example _ (ht.out.ext hE2.out)).mono ?_
          rintro e w3 ⟨rfl, hx⟩
          replace hx := Lib.hid hx
          go_wp2
          go_ret
          exact ⟨rfl, hE2.out.trans hx.out⟩

end Go.Proofs.YtphaigncbenmmaaDoor
