/- The laws of chapter 34 in plain Lean. -/
import Derived.Test.YtmbjlbmfagfneaaDoorMod
namespace Go.Proofs.YtmbjlbmfagfneaaDoor
open Go Go.Lib

/-! ### The text is not too long -/

theorem nDigits_le : ∀ (k u : Nat), u < 10 ^ (k + 1) → nDigits u ≤ k + 1
  | 0, u, h => by rw [nDigits_small (by simpa using h)]; exact Nat.le_refl _
  | k + 1, u, h => by
    by_cases hu : u < 10
    · rw [nDigits_small hu]; omega
    · rw [nDigits_big hu]
      have := nDigits_le k (u / 10) (by rw [Nat.pow_succ] at h; omega)
      omega

theorem itoa_len {n : Int} (h1 : -1048576 ≤ n) (h2 : n ≤ 1048576) : (itoa n).length ≤ 8 := by
  unfold itoa
  split
  · have := nDigits_le 6 n.natAbs (by omega)
    rw [List.length_cons, decDigits_length]; omega
  · have := nDigits_le 6 n.toNat (by omega)
    rw [decDigits_length]; omega

theorem glue_len (d : UInt8) (c : Nat) : ∀ ws : List B, (∀ w ∈ ws, w.length ≤ c) → (glue d ws).length ≤ ws.length * (c + 1)
  | [], _ => by simp [glue]
  | [w], h => by
    have := h w (by simp)
    simp [glue]; omega
  | w :: v :: r, h => by
    have h1 := h w (by simp)
    have h2 := glue_len d c (v :: r) (fun x hx => h x (List.mem_cons_of_mem _ hx))
    rw [glue, List.length_append, List.length_cons, List.length_cons, Nat.add_mul]
    omega

theorem inR_iff {lo hi n : Int} : inR lo hi n = true ↔ lo ≤ n ∧ n ≤ hi := by unfold inR; exact decide_eq_true_iff

theorem headOk_iff {a b c d : Int} : headOk a b c d = true ↔ (0 ≤ a ∧ a ≤ 1048576) ∧ (0 ≤ b ∧ b ≤ 1048576) ∧ (0 ≤ c ∧ c ≤ 1048576) ∧ (0 ≤ d ∧ d ≤ 1048576) := by
  unfold headOk
  simp only [Bool.and_eq_true, inR_iff, and_assoc]
theorem plOk_iff {p : Pl} : plOk p = true ↔ (0 ≤ p.g ∧ p.g ≤ 1048576) ∧ (0 ≤ p.u ∧ p.u ≤ 1048576) ∧ (0 ≤ p.c ∧ p.c ≤ 1048576) ∧ (0 ≤ p.q ∧ p.q ≤ 3) ∧ (-1048576 ≤ p.x ∧ p.x ≤ 1048576) ∧ (-1048576 ≤ p.y ∧ p.y ≤ 1048576) := by
  unfold plOk
  simp only [Bool.and_eq_true, inR_iff, and_assoc]

theorem text_len (m : Mk) (h : mkOk m = true) (hl : long m = false) : (textOf m).length ≤ 20000 := by
  obtain ⟨h1, h2, h3⟩ := mkOk_parts h
  unfold long at hl
  rw [Bool.or_eq_false_iff] at hl
  have hs : ¬ 6 < m.sizes.length := of_decide_eq_false hl.1
  have hp : ¬ 60 < m.places.length := of_decide_eq_false hl.2
  have hc : ∀ t ∈ linesOf m ++ [[]], t.length ≤ 72 := by
    intro t ht
    rcases List.mem_append.1 ht with ht | ht
    · rw [linesOf, List.mem_cons, List.mem_cons] at ht
      rcases ht with rfl | rfl | ht
      · have := glue_len 32 8 (Tmarker :: [m.len, m.wid, m.rx, m.ry].map itoa) (by
          obtain ⟨a, b, c, d⟩ := headOk_iff.1 h1
          intro w hw
          simp only [List.map_cons, List.map_nil, List.mem_cons, List.not_mem_nil, or_false] at hw
          rcases hw with rfl | rfl | rfl | rfl | rfl
          · decide
          all_goals exact itoa_len (by omega) (by omega))
        simp only [List.length_cons, List.length_map, List.length_nil] at this
        unfold headL; simp only [List.map_cons, List.map_nil] at this ⊢; omega
      · have := glue_len 32 8 (Tsizes :: m.sizes.map itoa) (by
          intro w hw
          rcases List.mem_cons.1 hw with rfl | hw
          · decide
          · obtain ⟨n, hn, rfl⟩ := List.mem_map.1 hw
            have := inR_iff.1 (List.all_eq_true.1 h2 n hn)
            exact itoa_len (by omega) (by omega))
        rw [List.length_cons, List.length_map] at this
        unfold sizesL; omega
      · obtain ⟨p, hpm, rfl⟩ := List.mem_map.1 ht
        obtain ⟨a, b, c, d, e, f⟩ := plOk_iff.1 (List.all_eq_true.1 h3 p hpm)
        have := glue_len 32 8 (Tplace :: ([p.g, p.u, p.c].map itoa ++ ((if p.f then [Tflip] else []) ++ [p.q, p.x, p.y].map itoa))) (by
          intro w hw
          rcases List.mem_cons.1 hw with rfl | hw
          · decide
          · rcases List.mem_append.1 hw with hw | hw
            · simp only [List.map_cons, List.map_nil, List.mem_cons, List.not_mem_nil, or_false] at hw
              rcases hw with rfl | rfl | rfl
              all_goals exact itoa_len (by omega) (by omega)
            · rcases List.mem_append.1 hw with hw | hw
              · split at hw
                · rw [List.mem_singleton.1 hw]; decide
                · simp at hw
              · simp only [List.map_cons, List.map_nil, List.mem_cons, List.not_mem_nil, or_false] at hw
                rcases hw with rfl | rfl | rfl
                all_goals exact itoa_len (by omega) (by omega))
        have hlen : (Tplace :: ([p.g, p.u, p.c].map itoa ++ ((if p.f then [Tflip] else []) ++ [p.q, p.x, p.y].map itoa))).length ≤ 8 := by
          cases p.f <;> simp
        unfold plL
        omega
    · rw [List.mem_singleton.1 ht]; simp
  have := glue_len 10 72 (linesOf m ++ [[]]) hc
  rw [List.length_append, linesOf_length] at this
  unfold textOf
  simp only [List.length_cons, List.length_nil] at this
  omega

/-! ### Reading a text -/

theorem rd_err {m : Mk} {line : Nat} {t : B} {e : Int} (h : rdLine m line t = .error e) : e = 2 ∨ e = 3 ∨ e = 5 := by
  unfold rdLine at h
  split at h
  · have := Except.error.inj h; omega
  · split at h
    · rw [rdHead] at h
      split at h
      · split at h
        · split at h
          · exact absurd h (by simp)
          · have := Except.error.inj h; omega
        · have := Except.error.inj h; omega
      · have := Except.error.inj h; omega
    · split at h
      · rw [rdSizes] at h
        split at h
        · split at h
          · split at h
            · split at h
              · have := Except.error.inj h; omega
              · exact absurd h (by simp)
            · have := Except.error.inj h; omega
          · have := Except.error.inj h; omega
        · have := Except.error.inj h; omega
      · rw [rdPlace] at h
        split at h
        · split at h
          · split at h
            · split at h
              · have := Except.error.inj h; omega
              · exact absurd h (by simp)
            · have := Except.error.inj h; omega
          · have := Except.error.inj h; omega
        · have := Except.error.inj h; omega

theorem cuts_split (s : B) : ∃ ls p, cuts 10 s = ls ++ [p] ∧ ls.length = s.count 10 := by
  obtain ⟨ls, p, e, _⟩ := cuts_front 10 [] s
  refine ⟨ls, p, e, ?_⟩
  have := cuts_length 10 s
  rw [e, List.length_append] at this
  simp at this; omega

theorem parse_short {s : B} (h : s.length ≤ 20000) : parse s = go Mk.zero 1 (cuts 10 s) := by unfold parse; rw [if_neg (by omega)]

/-- the cases of a text that is not too long -/
theorem parse_cases {s : B} (h : s.length ≤ 20000) : ∃ ls p, cuts 10 s = ls ++ [p] ∧ ls.length = s.count 10 ∧
    ((∃ m, fold Mk.zero 1 ls = .ok m ∧ parse s = ends m (1 + ls.length) p) ∨
     (∃ e k t m, ls[k]? = some t ∧ fold Mk.zero 1 (ls.take k) = .ok m ∧ rdLine m (1 + k) t = .error e ∧ parse s = (Mk.zero, e, 1 + k))) := by
  obtain ⟨ls, p, e1, e2⟩ := cuts_split s
  refine ⟨ls, p, e1, e2, ?_⟩
  have hp := parse_short h
  rw [e1, go_fold [p] (by simp)] at hp
  cases hf : fold Mk.zero 1 ls with
  | ok m => rw [hf] at hp; exact .inl ⟨m, rfl, hp⟩
  | error x =>
    obtain ⟨e, l⟩ := x
    rw [hf] at hp
    obtain ⟨k, t, m, h1, h2, h3, h4⟩ := fold_error ls Mk.zero 1 e l hf
    subst h1
    exact .inr ⟨e, k, t, m, h2, h3, h4, hp⟩

/-- the first lines of a text -/
def front : B → Nat → B
  | [], _ => []
  | _ :: _, 0 => []
  | c :: t, n + 1 => c :: front t (if c = 10 then n else n + 1)

theorem front_len : ∀ (s : B) (n : Nat), (front s n).length ≤ s.length
  | [], _ => by simp [front]
  | _ :: _, 0 => by simp [front]
  | c :: t, n + 1 => by
    rw [front, List.length_cons, List.length_cons]
    exact Nat.succ_le_succ (front_len t _)

theorem front_cuts (more : B) : ∀ (s : B) (n : Nat), n ≤ s.count 10 → cuts 10 (front s n ++ more) = (cuts 10 s).take n ++ cuts 10 more
  | [], n, h => by
    have : n = 0 := by simpa using h
    subst this; simp [front]
  | _ :: _, 0, _ => by simp [front]
  | c :: t, n + 1, h => by
    by_cases hc : c = 10
    · subst hc
      rw [List.count_cons_self] at h
      rw [front, if_pos rfl, List.cons_append, cuts_eq, front_cuts more t n (by omega), cuts_eq]; rfl
    · rw [List.count_cons_of_ne hc] at h
      rw [front, if_neg hc, List.cons_append, cuts_ne hc, front_cuts more t (n + 1) h, cuts_ne hc]
      obtain ⟨a, r, e⟩ := cuts_cons 10 t
      rw [e]; rfl

theorem front_cuts0 (s : B) (n : Nat) (h : n ≤ s.count 10) : cuts 10 (front s n) = (cuts 10 s).take n ++ [[]] := by
  have := front_cuts [] s n h
  rwa [List.append_nil] at this

/-! ### The laws -/

theorem print_cases (m : Mk) : (long m = true ∧ print m = ([], 5)) ∨ (long m = false ∧ mkOk m = false ∧ print m = ([], 3)) ∨ (long m = false ∧ mkOk m = true ∧ print m = (textOf m, 0)) := by
  unfold print
  cases hl : long m with
  | true => exact .inl ⟨rfl, rfl⟩
  | false =>
    cases hk : mkOk m with
    | false => exact .inr (.inl ⟨rfl, rfl, rfl⟩)
    | true => exact .inr (.inr ⟨rfl, rfl, rfl⟩)

theorem round_trip (m : Mk) (hl : long m = false) (hk : mkOk m = true) : parse (textOf m) = (m, 0, 0) := by
  rw [parse_short (text_len m hk hl), cuts_text, go_fold [[]] (by simp)]
  have hf := fold_lines m hk hl m.places.length
  rw [List.take_of_length_le (by rw [linesOf_length]; omega), List.take_of_length_le (Nat.le_refl _)] at hf
  rw [hf, linesOf_length]
  show ends _ _ [] = _
  unfold ends
  rw [if_pos rfl, if_neg (by omega)]

theorem again {s : B} {m : Mk} {e : Int} {line : Nat} (h : parse s = (m, e, line)) (h0 : e = 0) : print m = (s, 0) ∧ line = 0 := by
  by_cases hl : 20000 < s.length
  · unfold parse at h
    rw [if_pos hl] at h
    have : (5 : Int) = e := (Prod.mk.inj (Prod.mk.inj h).2).1
    omega
  · obtain ⟨ls, p, e1, e2, ⟨m', hf, hp⟩ | ⟨e', k, t, m', _, _, h4, hp⟩⟩ := parse_cases (show s.length ≤ 20000 by omega)
    · rw [h] at hp
      unfold ends at hp
      split at hp
      · rename_i hpe
        split at hp
        · have : e = 4 := (Prod.mk.inj (Prod.mk.inj hp).2).1
          omega
        · rename_i hlen
          obtain ⟨rfl, hp2⟩ := Prod.mk.inj hp
          have hline := (Prod.mk.inj hp2).2
          obtain ⟨b1, b2, b3⟩ := fold_back (by omega) hf
          refine ⟨?_, hline⟩
          unfold print
          rw [b3, b2]
          show (textOf m, (0 : Int)) = _
          congr 1
          unfold textOf
          rw [← b1, ← hpe, ← e1, glue_cuts]
      · have : e = 2 := (Prod.mk.inj (Prod.mk.inj hp).2).1
        omega
    · rw [h] at hp
      have : e = e' := (Prod.mk.inj (Prod.mk.inj hp).2).1
      have := rd_err h4
      omega

theorem again_err {s : B} {m : Mk} {e : Int} {line : Nat} (h : parse s = (m, e, line)) (h0 : e ≠ 0) :
    m = Mk.zero ∧ (0 < line ∨ (e = 5 ∧ 20000 < s.length)) ∧ (line ≤ 2 ∨ line ≤ s.count 10 + 1) := by
  by_cases hl : 20000 < s.length
  · unfold parse at h
    rw [if_pos hl] at h
    obtain ⟨rfl, h2⟩ := Prod.mk.inj h
    obtain ⟨rfl, rfl⟩ := Prod.mk.inj h2
    exact ⟨rfl, .inr ⟨rfl, hl⟩, .inl (by omega)⟩
  · obtain ⟨ls, p, e1, e2, ⟨m', hf, hp⟩ | ⟨e', k, t, m', h2, _, h4, hp⟩⟩ := parse_cases (show s.length ≤ 20000 by omega)
    · rw [h] at hp
      unfold ends at hp
      split at hp
      · split at hp
        · obtain ⟨rfl, hp2⟩ := Prod.mk.inj hp
          obtain ⟨rfl, rfl⟩ := Prod.mk.inj hp2
          exact ⟨rfl, .inl (by omega), .inr (by omega)⟩
        · exact absurd (Prod.mk.inj (Prod.mk.inj hp).2).1 h0
      · obtain ⟨rfl, hp2⟩ := Prod.mk.inj hp
        obtain ⟨rfl, rfl⟩ := Prod.mk.inj hp2
        exact ⟨rfl, .inl (by omega), .inr (by omega)⟩
    · rw [h] at hp
      obtain ⟨rfl, hp2⟩ := Prod.mk.inj hp
      obtain ⟨rfl, rfl⟩ := Prod.mk.inj hp2
      have hk := (List.getElem?_eq_some_iff.1 h2).1
      exact ⟨rfl, .inl (by omega), .inr (by omega)⟩

/-- the lines before a refused line are a marker -/
theorem before_ok {s : B} {ls : List B} {p : B} {k : Nat} {m : Mk} (hs : s.length ≤ 20000) (e1 : cuts 10 s = ls ++ [p]) (e2 : ls.length = s.count 10) (hk : k ≤ ls.length) (h2 : 2 ≤ k)
    (hf : fold Mk.zero 1 (ls.take k) = .ok m) : parse (front s k) = (m, 0, 0) ∧ m.places.length = k - 2 := by
  have hl := front_len s k
  have hlen : (ls.take k).length = k := by rw [List.length_take]; omega
  rw [parse_short (by omega), front_cuts0 s k (by omega), e1, List.take_append_of_le_length hk, go_fold [[]] (by simp), hf, hlen]
  constructor
  · show ends _ _ [] = _
    unfold ends
    rw [if_pos rfl, if_neg (by omega)]
  · obtain ⟨b1, _, _⟩ := fold_back (by omega) hf
    have := linesOf_length m
    rw [← b1] at this
    omega

theorem before {s more : B} (hs : s.length ≤ 10000) (hm : more.length ≤ 10000) {m : Mk} {e : Int} {line : Nat} (h : parse s = (m, e, line)) (h0 : e ≠ 0) :
    (2 < line → ∃ m', parse (front s (line - 1)) = (m', 0, 0) ∧ m'.places.length = line - 3) ∧
    (s.count 10 < line → e = 2 ∨ e = 4) ∧
    (line ≤ s.count 10 → parse (front s line ++ more) = (Mk.zero, e, line)) := by
  obtain ⟨ls, p, e1, e2, ⟨m', hf, hp⟩ | ⟨e', k, t, m', h2, h3, h4, hp⟩⟩ := parse_cases (show s.length ≤ 20000 by omega)
  · rw [h] at hp
    have hline : line = 1 + ls.length ∧ (e = 2 ∨ e = 4) := by
      unfold ends at hp
      split at hp
      · split at hp
        · have := Prod.mk.inj (Prod.mk.inj hp).2
          exact ⟨this.2, .inr this.1⟩
        · exact absurd (Prod.mk.inj (Prod.mk.inj hp).2).1 h0
      · have := Prod.mk.inj (Prod.mk.inj hp).2
        exact ⟨this.2, .inl this.1⟩
    obtain ⟨rfl, he⟩ := hline
    refine ⟨fun hl => ?_, fun _ => he, fun hl => by omega⟩
    have := before_ok (k := ls.length) (m := m') (show s.length ≤ 20000 by omega) e1 e2 (Nat.le_refl _) (by omega) (by rw [List.take_of_length_le (Nat.le_refl _)]; exact hf)
    rw [show 1 + ls.length - 1 = ls.length by omega, show 1 + ls.length - 3 = ls.length - 2 by omega]
    exact ⟨m', this⟩
  · rw [h] at hp
    have hx := Prod.mk.inj (Prod.mk.inj hp).2
    have hk := (List.getElem?_eq_some_iff.1 h2).1
    obtain ⟨he, rfl⟩ := hx
    subst he
    refine ⟨fun hl => ?_, fun hl => by omega, fun _ => ?_⟩
    · have := before_ok (k := k) (m := m') (show s.length ≤ 20000 by omega) e1 e2 (by omega) (by omega) h3
      rw [show 1 + k - 1 = k by omega, show 1 + k - 3 = k - 2 by omega]
      exact ⟨m', this⟩
    · have hl := front_len s (1 + k)
      have ht : ls.take (1 + k) = ls.take k ++ [t] := by
        rw [Nat.add_comm, List.take_add_one, h2]; rfl
      have hlen : (ls.take k).length = k := by rw [List.length_take]; omega
      rw [parse_short (by rw [List.length_append]; omega), front_cuts more s (1 + k) (by omega), e1, List.take_append_of_le_length (by omega), go_fold _ (cuts_ne_nil _ _), ht, fold_app, h3]
      show (match fold m' (1 + (ls.take k).length) [t] with
        | .error (e, l) => (Mk.zero, e, l)
        | .ok m' => _) = _
      rw [hlen, fold_cons_err _ h4]

/-- a text of a marker that is cut off -/
theorem cut_off (m : Mk) (hl : long m = false) (hk : mkOk m = true) (t u : B) (ht : textOf m = t ++ u) :
    (t.getLast?.getD 10 ≠ 10 → parse t = (Mk.zero, 2, t.count 10 + 1)) ∧
    (t.getLast?.getD 10 = 10 → t.count 10 < 2 → parse t = (Mk.zero, 4, t.count 10 + 1)) ∧
    (t.getLast?.getD 10 = 10 → 2 ≤ t.count 10 → t.count 10 - 2 ≤ m.places.length ∧ parse t = ({ m with places := m.places.take (t.count 10 - 2) }, 0, 0)) := by
  have hlen := text_len m hk hl
  rw [ht, List.length_append] at hlen
  obtain ⟨ls, p, e1, e2⟩ := cuts_front 10 u t
  rw [← ht, cuts_text] at e2
  have hc : ls.length = t.count 10 := by
    have := cuts_length 10 t
    rw [e1, List.length_append] at this
    simp at this; omega
  have hcl := cuts_last 10 t ls p e1
  have hle : ls.length ≤ 2 + m.places.length := by
    have := congrArg List.length e2
    rw [List.length_append, linesOf_length, List.length_append] at this
    simp only [List.length_cons, List.length_nil] at this
    omega
  have hls : ls = (linesOf m).take ls.length := by
    have := congrArg (List.take ls.length) e2
    rw [List.take_append_of_le_length (by rw [linesOf_length]; exact hle), List.take_append_of_le_length (Nat.le_refl _), List.take_of_length_le (Nat.le_refl _)] at this
    exact this.symm
  have hp : ∃ m', fold Mk.zero 1 ls = .ok m' ∧ (2 ≤ ls.length → m' = { m with places := m.places.take (ls.length - 2) }) := by
    rcases Nat.lt_or_ge ls.length 2 with h | h
    · have hall := fold_lines m hk hl 0
      have e : (linesOf m).take (0 + 2) = ls ++ ((linesOf m).take (0 + 2)).drop ls.length := by
        rw [hls, List.length_take, linesOf_length, show min ls.length (2 + m.places.length) = ls.length by omega]
        rw [show (linesOf m).take ls.length = ((linesOf m).take (0 + 2)).take ls.length by rw [List.take_take, show min ls.length (0 + 2) = ls.length by omega], List.take_append_drop]
      rw [e, fold_app] at hall
      cases hf : fold Mk.zero 1 ls with
      | error x => rw [hf] at hall; exact absurd hall (by simp)
      | ok m' => exact ⟨m', rfl, fun h' => by omega⟩
    · have := fold_lines m hk hl (ls.length - 2)
      rw [show ls.length - 2 + 2 = ls.length by omega, ← hls] at this
      exact ⟨_, this, fun _ => rfl⟩
  obtain ⟨m', hf, hm'⟩ := hp
  have hpt : parse t = ends m' (1 + ls.length) p := by rw [parse_short (by omega), e1, go_fold [p] (by simp), hf]; rfl
  rw [hpt, ← hc]
  unfold ends
  refine ⟨fun h => ?_, fun h h2 => ?_, fun h h2 => ⟨by omega, ?_⟩⟩
  · rw [if_neg (fun h' => h (hcl.1 h')), Nat.add_comm]
  · rw [if_pos (hcl.2 h), if_pos (by omega), Nat.add_comm]
  · rw [if_pos (hcl.2 h), if_neg (by omega), hm' h2]

end Go.Proofs.YtmbjlbmfagfneaaDoor
