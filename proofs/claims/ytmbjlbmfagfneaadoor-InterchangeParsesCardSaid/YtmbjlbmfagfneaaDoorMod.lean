/- Chapter 34 in plain Lean: a marker's text, and the marker of a text. -/
import Derived.Test.YtmbjlbmfagfneaaDoorTxt
namespace Go.Proofs.YtmbjlbmfagfneaaDoor
open Go Go.Lib

structure Pl where
  g : Int
  u : Int
  c : Int
  f : Bool
  q : Int
  x : Int
  y : Int
deriving DecidableEq

structure Mk where
  len : Int
  wid : Int
  rx : Int
  ry : Int
  sizes : List Int
  places : List Pl
deriving DecidableEq

def Mk.zero : Mk := ⟨0, 0, 0, 0, [], []⟩

def inR (lo hi n : Int) : Bool := decide (lo ≤ n ∧ n ≤ hi)
def headOk (a b c d : Int) : Bool := inR 0 1048576 a && inR 0 1048576 b && inR 0 1048576 c && inR 0 1048576 d
def plOk (p : Pl) : Bool := inR 0 1048576 p.g && inR 0 1048576 p.u && inR 0 1048576 p.c && inR 0 3 p.q && inR (-1048576) 1048576 p.x && inR (-1048576) 1048576 p.y
def mkOk (m : Mk) : Bool := headOk m.len m.wid m.rx m.ry && m.sizes.all (inR 0 1048576) && m.places.all plOk

def Tmarker : B := [109, 97, 114, 107, 101, 114]
def Tsizes : B := [115, 105, 122, 101, 115]
def Tplace : B := [112, 108, 97, 99, 101]
def Tflip : B := [102, 108, 105, 112]

def headL (m : Mk) : B := glue 32 (Tmarker :: [m.len, m.wid, m.rx, m.ry].map itoa)
def sizesL (m : Mk) : B := glue 32 (Tsizes :: m.sizes.map itoa)
def plL (p : Pl) : B := glue 32 (Tplace :: ([p.g, p.u, p.c].map itoa ++ ((if p.f then [Tflip] else []) ++ [p.q, p.x, p.y].map itoa)))
def linesOf (m : Mk) : List B := headL m :: sizesL m :: m.places.map plL
def textOf (m : Mk) : B := glue 10 (linesOf m ++ [[]])

def long (m : Mk) : Bool := decide (6 < m.sizes.length) || decide (60 < m.places.length)
def print (m : Mk) : B × Int := if long m then ([], 5) else if mkOk m then (textOf m, 0) else ([], 3)

def rdHead (m : Mk) (w : B) (r : List B) : Except Int Mk :=
  match nums r with
  | some [a, b, c, d] => if w = Tmarker then (if headOk a b c d then .ok { m with len := a, wid := b, rx := c, ry := d } else .error 3) else .error 2
  | _ => .error 2

def rdSizes (m : Mk) (w : B) (r : List B) : Except Int Mk :=
  match nums r with
  | some l => if w = Tsizes then (if l.all (inR 0 1048576) then (if 6 < l.length then .error 5 else .ok { m with sizes := l }) else .error 3) else .error 2
  | none => .error 2

def flipped (r : List B) : Bool := decide (r.length = 7 ∧ r[3]? = some Tflip)
def unflip (r : List B) : List B := if flipped r then r.take 3 ++ r.drop 4 else r

def rdPlace (m : Mk) (w : B) (r : List B) : Except Int Mk :=
  match nums (unflip r) with
  | some [a, b, c, q, x, y] => if w = Tplace then (if plOk ⟨a, b, c, flipped r, q, x, y⟩ then (if 60 ≤ m.places.length then .error 5 else .ok { m with places := m.places ++ [⟨a, b, c, flipped r, q, x, y⟩] }) else .error 3) else .error 2
  | _ => .error 2

def rdLine (m : Mk) (line : Nat) (t : B) : Except Int Mk :=
  match cuts 32 t with
  | [] => .error 2
  | w :: r => if line = 1 then rdHead m w r else if line = 2 then rdSizes m w r else rdPlace m w r

def go (m : Mk) (line : Nat) : List B → Mk × Int × Nat
  | [] => (m, 0, 0)
  | [tl] => if tl = [] then (if line ≤ 2 then (Mk.zero, 4, line) else (m, 0, 0)) else (Mk.zero, 2, line)
  | t :: u :: r => match rdLine m line t with
    | .error e => (Mk.zero, e, line)
    | .ok m' => go m' (line + 1) (u :: r)

def parse (s : B) : Mk × Int × Nat := if 20000 < s.length then (Mk.zero, 5, 0) else go Mk.zero 1 (cuts 10 s)

/-! ### The lines that are read, one after another -/

def fold (m : Mk) (line : Nat) : List B → Except (Int × Nat) Mk
  | [] => .ok m
  | t :: r => match rdLine m line t with
    | .error e => .error (e, line)
    | .ok m' => fold m' (line + 1) r

theorem fold_cons_ok {m m' : Mk} {line : Nat} {t : B} (r : List B) (h : rdLine m line t = .ok m') : fold m line (t :: r) = fold m' (line + 1) r := by rw [fold, h]
theorem fold_cons_err {m : Mk} {line : Nat} {t : B} {e : Int} (r : List B) (h : rdLine m line t = .error e) : fold m line (t :: r) = .error (e, line) := by rw [fold, h]

def ends (m : Mk) (line : Nat) (tl : B) : Mk × Int × Nat := if tl = [] then (if line ≤ 2 then (Mk.zero, 4, line) else (m, 0, 0)) else (Mk.zero, 2, line)

theorem go_one (m : Mk) (line : Nat) (tl : B) : go m line [tl] = ends m line tl := rfl
theorem go_ok {m m' : Mk} {line : Nat} {t : B} {r : List B} (hr : r ≠ []) (h : rdLine m line t = .ok m') : go m line (t :: r) = go m' (line + 1) r := by
  cases r with
  | nil => exact absurd rfl hr
  | cons u r => rw [go, h]
theorem go_err {m : Mk} {line : Nat} {t : B} {r : List B} {e : Int} (hr : r ≠ []) (h : rdLine m line t = .error e) : go m line (t :: r) = (Mk.zero, e, line) := by
  cases r with
  | nil => exact absurd rfl hr
  | cons u r => rw [go, h]

theorem go_fold (r : List B) (hr : r ≠ []) : ∀ (ls : List B) (m : Mk) (line : Nat), go m line (ls ++ r) = match fold m line ls with
    | .error (e, l) => (Mk.zero, e, l)
    | .ok m' => go m' (line + ls.length) r
  | [], m, line => by simp [fold]
  | t :: ls, m, line => by
    rw [List.cons_append]
    cases h : rdLine m line t with
    | error e => rw [go_err (by simp [hr]) h, fold_cons_err _ h]
    | ok m' =>
      rw [go_ok (by simp [hr]) h, fold_cons_ok _ h, go_fold r hr ls m' (line + 1), List.length_cons, show line + 1 + ls.length = line + (ls.length + 1) by omega]

theorem fold_app : ∀ (ls r : List B) (m : Mk) (line : Nat), fold m line (ls ++ r) = match fold m line ls with
    | .error e => .error e
    | .ok m' => fold m' (line + ls.length) r
  | [], r, m, line => by simp [fold]
  | t :: ls, r, m, line => by
    rw [List.cons_append]
    cases h : rdLine m line t with
    | error e => rw [fold_cons_err _ h, fold_cons_err _ h]
    | ok m' => rw [fold_cons_ok _ h, fold_cons_ok _ h, fold_app ls r m' (line + 1), List.length_cons, show line + 1 + ls.length = line + (ls.length + 1) by omega]

/-- where an error stands, the lines before it are read, and the line itself is refused -/
theorem fold_error : ∀ (ls : List B) (m : Mk) (line : Nat) (e : Int) (l : Nat), fold m line ls = .error (e, l) →
    ∃ k t m', l = line + k ∧ ls[k]? = some t ∧ fold m line (ls.take k) = .ok m' ∧ rdLine m' l t = .error e
  | [], m, line, e, l, h => by simp [fold] at h
  | t :: ls, m, line, e, l, h => by
    cases h1 : rdLine m line t with
    | error e1 =>
      rw [fold_cons_err _ h1] at h
      have h2 : e1 = e ∧ line = l := by simpa using h
      obtain ⟨rfl, rfl⟩ := h2
      exact ⟨0, t, m, rfl, rfl, rfl, h1⟩
    | ok m1 =>
      rw [fold_cons_ok _ h1] at h
      obtain ⟨k, t', m', e1, e2, e3, e4⟩ := fold_error ls m1 (line + 1) e l h
      refine ⟨k + 1, t', m', by omega, by simpa using e2, ?_, e4⟩
      rw [List.take_succ_cons, fold_cons_ok _ h1]; exact e3

/-! ### Reading what is printed -/

theorem no32 {l : List Int} : ∀ w ∈ l.map itoa, (32 : UInt8) ∉ w := by
  intro w hw
  obtain ⟨n, _, rfl⟩ := List.mem_map.1 hw
  exact itoa_no n (by decide)

theorem cuts_headL (m : Mk) : cuts 32 (headL m) = Tmarker :: [m.len, m.wid, m.rx, m.ry].map itoa := by
  refine cuts_glue (by simp) fun w hw => ?_
  rcases List.mem_cons.1 hw with rfl | hw
  · decide
  · exact no32 w hw
theorem cuts_sizesL (m : Mk) : cuts 32 (sizesL m) = Tsizes :: m.sizes.map itoa := by
  refine cuts_glue (by simp) fun w hw => ?_
  rcases List.mem_cons.1 hw with rfl | hw
  · decide
  · exact no32 w hw
theorem cuts_plL (p : Pl) : cuts 32 (plL p) = Tplace :: ([p.g, p.u, p.c].map itoa ++ ((if p.f then [Tflip] else []) ++ [p.q, p.x, p.y].map itoa)) := by
  refine cuts_glue (by simp) fun w hw => ?_
  rcases List.mem_cons.1 hw with rfl | hw
  · decide
  · rcases List.mem_append.1 hw with hw | hw
    · exact no32 w hw
    · rcases List.mem_append.1 hw with hw | hw
      · split at hw
        · rw [List.mem_singleton.1 hw]; decide
        · simp at hw
      · exact no32 w hw

theorem rd_headL (m0 m : Mk) (h : headOk m.len m.wid m.rx m.ry = true) : rdLine m0 1 (headL m) = .ok { m0 with len := m.len, wid := m.wid, rx := m.rx, ry := m.ry } := by
  unfold rdLine
  rw [cuts_headL]
  show (if 1 = 1 then rdHead m0 Tmarker ([m.len, m.wid, m.rx, m.ry].map itoa) else _) = _
  rw [if_pos rfl, rdHead, nums_itoa]
  show (if Tmarker = Tmarker then _ else _) = _
  rw [if_pos rfl, if_pos h]

theorem rd_sizesL (m0 m : Mk) (h : m.sizes.all (inR 0 1048576) = true) (hl : m.sizes.length ≤ 6) : rdLine m0 2 (sizesL m) = .ok { m0 with sizes := m.sizes } := by
  unfold rdLine
  rw [cuts_sizesL]
  show (if 2 = 1 then _ else if 2 = 2 then rdSizes m0 Tsizes (m.sizes.map itoa) else _) = _
  rw [if_neg (by decide), if_pos rfl, rdSizes, nums_itoa]
  show (if Tsizes = Tsizes then _ else _) = _
  rw [if_pos rfl, if_pos h, if_neg (by omega)]

theorem flip_no (n : Int) : itoa n ≠ Tflip := by
  intro h
  have := itoa_mem n 102 (by rw [h]; decide)
  revert this; decide

theorem rd_plL (m0 : Mk) (line : Nat) (h3 : 3 ≤ line) (p : Pl) (h : plOk p = true) (hl : m0.places.length < 60) : rdLine m0 line (plL p) = .ok { m0 with places := m0.places ++ [p] } := by
  unfold rdLine
  rw [cuts_plL]
  show (if line = 1 then _ else if line = 2 then _ else rdPlace m0 Tplace ([p.g, p.u, p.c].map itoa ++ ((if p.f then [Tflip] else []) ++ [p.q, p.x, p.y].map itoa))) = _
  rw [if_neg (by omega), if_neg (by omega), rdPlace]
  obtain ⟨g, u, c, f, q, x, y⟩ := p
  have hf : flipped ([g, u, c].map itoa ++ ((if f then [Tflip] else []) ++ [q, x, y].map itoa)) = f := by
    cases f
    · simp [flipped]
    · simp [flipped]
  have hu : unflip ([g, u, c].map itoa ++ ((if f then [Tflip] else []) ++ [q, x, y].map itoa)) = [g, u, c, q, x, y].map itoa := by
    unfold unflip
    rw [hf]
    cases f <;> simp
  rw [hu, hf, nums_itoa]
  show (if Tplace = Tplace then _ else _) = _
  rw [if_pos rfl, if_pos h, if_neg (by omega)]

theorem fold_places : ∀ (ps : List Pl) (m : Mk) (line : Nat), 3 ≤ line → ps.all plOk = true → m.places.length + ps.length ≤ 60 →
    fold m line (ps.map plL) = .ok { m with places := m.places ++ ps }
  | [], m, line, _, _, _ => by simp [fold]
  | p :: ps, m, line, h3, ho, hl => by
    rw [List.all_cons, Bool.and_eq_true] at ho
    rw [List.length_cons] at hl
    rw [List.map_cons, fold_cons_ok _ (rd_plL m line h3 p ho.1 (by omega)), fold_places ps _ (line + 1) (by omega) ho.2 (by simp; omega)]
    simp

theorem mkOk_parts {m : Mk} (h : mkOk m = true) : headOk m.len m.wid m.rx m.ry = true ∧ m.sizes.all (inR 0 1048576) = true ∧ m.places.all plOk = true := by
  unfold mkOk at h
  rw [Bool.and_eq_true, Bool.and_eq_true] at h
  exact ⟨h.1.1, h.1.2, h.2⟩

theorem fold_lines (m : Mk) (h : mkOk m = true) (hl : long m = false) (k : Nat) :
    fold Mk.zero 1 ((linesOf m).take (k + 2)) = .ok { m with places := m.places.take k } := by
  obtain ⟨h1, h2, h3⟩ := mkOk_parts h
  unfold long at hl
  rw [Bool.or_eq_false_iff] at hl
  have hs : ¬ 6 < m.sizes.length := of_decide_eq_false hl.1
  have hp : ¬ 60 < m.places.length := of_decide_eq_false hl.2
  rw [linesOf, List.take_succ_cons, List.take_succ_cons, fold_cons_ok _ (rd_headL Mk.zero m h1), fold_cons_ok _ (rd_sizesL _ m h2 (by omega)), ← List.map_take,
    fold_places _ _ _ (by omega) ?_ (by show 0 + _ ≤ 60; rw [List.length_take]; omega)]
  · show Except.ok _ = _
    simp [Mk.zero]
  · rw [List.all_eq_true] at h3 ⊢
    exact fun p hp => h3 p (List.mem_of_mem_take hp)

theorem line_no10 (ws : List B) (h : ∀ w ∈ ws, (10 : UInt8) ∉ w) : (10 : UInt8) ∉ glue 32 ws := by
  induction ws with
  | nil => simp [glue]
  | cons w r ih =>
    cases r with
    | nil => exact h w (by simp)
    | cons v r =>
      rw [glue]
      intro hm
      rcases List.mem_append.1 hm with h1 | h1
      · exact h w (by simp) h1
      · rcases List.mem_cons.1 h1 with h1 | h1
        · exact absurd h1 (by decide)
        · exact ih (fun x hx => h x (List.mem_cons_of_mem _ hx)) h1

theorem no10 {l : List Int} : ∀ w ∈ l.map itoa, (10 : UInt8) ∉ w := by
  intro w hw
  obtain ⟨n, _, rfl⟩ := List.mem_map.1 hw
  exact itoa_no n (by decide)

theorem lines_no10 (m : Mk) : ∀ t ∈ linesOf m ++ [[]], (10 : UInt8) ∉ t := by
  intro t ht
  rcases List.mem_append.1 ht with ht | ht
  · rw [linesOf, List.mem_cons, List.mem_cons] at ht
    rcases ht with rfl | rfl | ht
    · refine line_no10 _ fun w hw => ?_
      rcases List.mem_cons.1 hw with rfl | hw
      · decide
      · exact no10 w hw
    · refine line_no10 _ fun w hw => ?_
      rcases List.mem_cons.1 hw with rfl | hw
      · decide
      · exact no10 w hw
    · obtain ⟨p, _, rfl⟩ := List.mem_map.1 ht
      refine line_no10 _ fun w hw => ?_
      rcases List.mem_cons.1 hw with rfl | hw
      · decide
      · rcases List.mem_append.1 hw with hw | hw
        · exact no10 w hw
        · rcases List.mem_append.1 hw with hw | hw
          · split at hw
            · rw [List.mem_singleton.1 hw]; decide
            · simp at hw
          · exact no10 w hw
  · rw [List.mem_singleton.1 ht]; simp

theorem cuts_text (m : Mk) : cuts 10 (textOf m) = linesOf m ++ [[]] := cuts_glue (by simp) (lines_no10 m)

theorem linesOf_length (m : Mk) : (linesOf m).length = 2 + m.places.length := by simp [linesOf]; omega

theorem count_text (m : Mk) : (textOf m).count 10 = 2 + m.places.length := by
  have := cuts_length 10 (textOf m)
  rw [cuts_text, List.length_append, linesOf_length] at this
  simp at this; omega

/-! ### Printing what is read -/

theorem rd_head_back {m0 m : Mk} {t : B} (h : rdLine m0 1 t = .ok m) : t = headL m ∧ headOk m.len m.wid m.rx m.ry = true ∧ m = { m0 with len := m.len, wid := m.wid, rx := m.rx, ry := m.ry } := by
  have hg := glue_cuts 32 t
  unfold rdLine at h
  cases e : cuts 32 t with
  | nil => exact absurd e (cuts_ne_nil _ _)
  | cons w r =>
    rw [e] at h hg
    have h : rdHead m0 w r = .ok m := h
    rw [rdHead] at h
    split at h
    · rename_i a b c d hn
      split at h
      · rename_i hw
        split at h
        · rename_i ho
          have := Except.ok.inj h
          subst this
          refine ⟨?_, ho, rfl⟩
          rw [← hg, itoa_nums hn, hw]; rfl
        · exact absurd h (by simp)
      · exact absurd h (by simp)
    · exact absurd h (by simp)

theorem rd_sizes_back {m0 m : Mk} {t : B} (h : rdLine m0 2 t = .ok m) : t = sizesL m ∧ m.sizes.all (inR 0 1048576) = true ∧ m.sizes.length ≤ 6 ∧ m = { m0 with sizes := m.sizes } := by
  have hg := glue_cuts 32 t
  unfold rdLine at h
  cases e : cuts 32 t with
  | nil => exact absurd e (cuts_ne_nil _ _)
  | cons w r =>
    rw [e] at h hg
    have h : rdSizes m0 w r = .ok m := h
    rw [rdSizes] at h
    split at h
    · rename_i l hn
      split at h
      · rename_i hw
        split at h
        · rename_i ho
          split at h
          · exact absurd h (by simp)
          · rename_i hl
            have := Except.ok.inj h
            subst this
            refine ⟨?_, ho, by show l.length ≤ 6; omega, rfl⟩
            rw [← hg, itoa_nums hn, hw]; rfl
        · exact absurd h (by simp)
      · exact absurd h (by simp)
    · exact absurd h (by simp)

theorem rd_place_back {m0 m : Mk} {line : Nat} {t : B} (h3 : 3 ≤ line) (h : rdLine m0 line t = .ok m) : ∃ p, t = plL p ∧ plOk p = true ∧ m0.places.length < 60 ∧ m = { m0 with places := m0.places ++ [p] } := by
  have hg := glue_cuts 32 t
  unfold rdLine at h
  cases e : cuts 32 t with
  | nil => exact absurd e (cuts_ne_nil _ _)
  | cons w r =>
    rw [e] at h hg
    have h : (if line = 1 then rdHead m0 w r else if line = 2 then rdSizes m0 w r else rdPlace m0 w r) = .ok m := h
    rw [if_neg (by omega), if_neg (by omega), rdPlace] at h
    split at h
    · rename_i a b c q x y hn
      split at h
      · rename_i hw
        split at h
        · rename_i ho
          split at h
          · exact absurd h (by simp)
          · rename_i hl
            have := Except.ok.inj h
            subst this
            refine ⟨⟨a, b, c, flipped r, q, x, y⟩, ?_, ho, by omega, rfl⟩
            rw [← hg, hw]
            unfold plL
            congr 2
            have hu := itoa_nums hn
            unfold unflip at hu
            cases hf : flipped r with
            | false =>
              rw [hf] at hu
              rw [show r = _ from hu]; simp
            | true =>
              rw [hf] at hu
              have hu : r.take 3 ++ r.drop 4 = [a, b, c, q, x, y].map itoa := hu
              obtain ⟨h7, hr3⟩ := of_decide_eq_true (show decide (r.length = 7 ∧ r[3]? = some Tflip) = true from hf)
              match r, h7 with
              | [r0, r1, r2, r3, r4, r5, r6], _ =>
                simp at hu hr3
                simp [hu, hr3]
        · exact absurd h (by simp)
      · exact absurd h (by simp)
    · exact absurd h (by simp)

theorem fold_places_back : ∀ (ts : List B) (m m' : Mk) (line : Nat), 3 ≤ line → m.places.length ≤ 60 → fold m line ts = .ok m' →
    ∃ ps, ts = ps.map plL ∧ ps.all plOk = true ∧ m' = { m with places := m.places ++ ps } ∧ m.places.length + ps.length ≤ 60
  | [], m, m', line, _, hl, h => by
    have := Except.ok.inj h
    subst this
    exact ⟨[], rfl, rfl, by simp, by simpa using hl⟩
  | t :: ts, m, m', line, h3, hl, h => by
    cases h1 : rdLine m line t with
    | error e => rw [fold_cons_err _ h1] at h; exact absurd h (by simp)
    | ok m1 =>
      rw [fold_cons_ok _ h1] at h
      obtain ⟨p, rfl, hp, hlt, rfl⟩ := rd_place_back h3 h1
      obtain ⟨ps, rfl, hps, rfl, hlen⟩ := fold_places_back ts _ m' (line + 1) (by omega) (by simp; omega) h
      refine ⟨p :: ps, rfl, by rw [List.all_cons, hp, hps]; rfl, by simp, ?_⟩
      simp at hlen ⊢; omega

theorem fold_back {ls : List B} {m : Mk} (h2 : 2 ≤ ls.length) (h : fold Mk.zero 1 ls = .ok m) : ls = linesOf m ∧ mkOk m = true ∧ long m = false := by
  match ls, h2 with
  | t :: t2 :: ts, _ =>
    cases e1 : rdLine Mk.zero 1 t with
    | error e => rw [fold_cons_err _ e1] at h; exact absurd h (by simp)
    | ok m1 =>
      rw [fold_cons_ok _ e1] at h
      cases e2 : rdLine m1 2 t2 with
      | error e => rw [fold_cons_err _ e2] at h; exact absurd h (by simp)
      | ok m2 =>
        rw [fold_cons_ok _ e2] at h
        obtain ⟨rfl, a1, a2⟩ := rd_head_back e1
        obtain ⟨rfl, b1, b2, b3⟩ := rd_sizes_back e2
        have hz : m2.places = [] := by rw [b3, a2]; rfl
        obtain ⟨ps, rfl, c1, c2, c3⟩ := fold_places_back ts m2 m 3 (by omega) (by rw [hz]; simp) h
        rw [hz, List.nil_append] at c2
        rw [hz] at c3
        have hh : m.len = m1.len ∧ m.wid = m1.wid ∧ m.rx = m1.rx ∧ m.ry = m1.ry := by rw [c2, b3]; simp
        have hs : m.sizes = m2.sizes := by rw [c2]
        have hp : m.places = ps := by rw [c2]
        obtain ⟨i1, i2, i3, i4⟩ := hh
        refine ⟨?_, ?_, ?_⟩
        · unfold linesOf headL sizesL
          rw [i1, i2, i3, i4, hs, hp]
        · unfold mkOk
          rw [i1, i2, i3, i4, hs, hp, a1, b1, c1]; rfl
        · unfold long
          rw [hs, hp]
          simp at c3 ⊢; omega

end Go.Proofs.YtmbjlbmfagfneaaDoor
