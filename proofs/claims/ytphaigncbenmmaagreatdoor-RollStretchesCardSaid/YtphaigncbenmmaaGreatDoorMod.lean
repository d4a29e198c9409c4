/- Chapter 27 in plain Lean: the check of a roll, the text of rolls, the rolls of a text. -/
import Derived.Test.YtphaigncbenmmaaGreatDoorTxt
import Derived.Test.YtphaigncbenmmaaGreatDoorZon
namespace Go.Proofs.YtphaigncbenmmaaGreatDoor
open Go Go.Lib

structure Ro where
  id : B
  wid : Int
  len : Int
  tl : Int
  ta : Int
  tb : Int
  fl : List Fl
deriving DecidableEq

def inR (lo hi n : Int) : Bool := decide (lo ≤ n ∧ n ≤ hi)
def cap (c : UInt8) : Bool := decide (65 ≤ c.toNat ∧ c.toNat ≤ 90)
def oth (c : UInt8) : Bool := decide (97 ≤ c.toNat ∧ c.toNat ≤ 122) || decide (48 ≤ c.toNat ∧ c.toNat ≤ 57)
def idOk (s : B) : Bool := decide (1 ≤ s.length ∧ s.length ≤ 8) && ((s.take 1).all cap && (s.drop 1).all fun c => cap c || oth c)
def measOk (r : Ro) : Bool := inR 1 1048576 r.len && inR 1 1048576 r.wid && inR (-1000) 1000 r.tl && inR (-1000) 1000 r.ta && inR (-1000) 1000 r.tb
def fitOk (r : Ro) (f : Fl) : Bool := decide (0 ≤ f.x ∧ 1 ≤ f.w ∧ f.w ≤ r.len - f.x ∧ 0 ≤ f.y ∧ 1 ≤ f.h ∧ f.h ≤ r.wid - f.y)
def check (r : Ro) : Int := if idOk r.id then (if measOk r then (if 20 < r.fl.length then 5 else if r.fl.all (fitOk r) then 0 else 3) else 3) else 1

structure Valid (r : Ro) : Prop where
  id : idOk r.id = true
  meas : measOk r = true
  few : r.fl.length ≤ 20
  fit : ∀ f ∈ r.fl, fitOk r f = true

theorem check_ok {r : Ro} (h : check r = 0) : Valid r := by
  unfold check at h
  split at h
  · rename_i h1
    split at h
    · rename_i h2
      split at h
      · omega
      · rename_i h3
        split at h
        · rename_i h4
          exact ⟨h1, h2, by omega, fun f hf => List.all_eq_true.1 h4 f hf⟩
        · omega
    · omega
  · omega

theorem Valid.len {r : Ro} (h : Valid r) : 1 ≤ r.len ∧ r.len ≤ 1048576 := by
  have := h.meas; simp only [measOk, inR, Bool.and_eq_true, decide_eq_true_eq] at this; omega
theorem Valid.wid {r : Ro} (h : Valid r) : 1 ≤ r.wid ∧ r.wid ≤ 1048576 := by
  have := h.meas; simp only [measOk, inR, Bool.and_eq_true, decide_eq_true_eq] at this; omega
theorem Valid.tone {r : Ro} (h : Valid r) : (-1000 ≤ r.tl ∧ r.tl ≤ 1000) ∧ (-1000 ≤ r.ta ∧ r.ta ≤ 1000) ∧ (-1000 ≤ r.tb ∧ r.tb ≤ 1000) := by
  have := h.meas; simp only [measOk, inR, Bool.and_eq_true, decide_eq_true_eq] at this; omega
theorem Valid.flaw {r : Ro} (h : Valid r) (f : Fl) (hf : f ∈ r.fl) : 0 ≤ f.x ∧ 1 ≤ f.w ∧ f.w ≤ r.len - f.x ∧ 0 ≤ f.y ∧ 1 ≤ f.h ∧ f.h ≤ r.wid - f.y := of_decide_eq_true (h.fit f hf)
theorem Valid.fits {r : Ro} (h : Valid r) : Fits r.len r.fl := fun f hf => by have := h.flaw f hf; omega
theorem Valid.check {r : Ro} (h : Valid r) : check r = 0 := by
  unfold Go.Proofs.YtphaigncbenmmaaGreatDoor.check
  rw [if_pos h.id, if_pos h.meas, if_neg (by have := h.few; omega), if_pos (List.all_eq_true.2 h.fit)]

/-! ### Texts -/

def Troll : B := [114, 111, 108, 108]
def Tflaw : B := [102, 108, 97, 119]

def sp (l : List Int) : B := l.flatMap fun n => 32 :: itoa n
def flawT (f : Fl) : B := 32 :: Tflaw ++ sp [f.x, f.y, f.w, f.h]
def lineT (r : Ro) : B := Troll ++ 32 :: r.id ++ sp [r.len, r.wid, r.tl, r.ta, r.tb] ++ r.fl.flatMap flawT
def textT (l : List Ro) : B := l.flatMap fun r => lineT r ++ [10]

def flawW (f : Fl) : List B := Tflaw :: [f.x, f.y, f.w, f.h].map itoa
def wordsOf (r : Ro) : List B := Troll :: r.id :: ([r.len, r.wid, r.tl, r.ta, r.tb].map itoa ++ r.fl.flatMap flawW)

theorem glue_flat (d : UInt8) (w : B) : ∀ r : List B, glue d (w :: r) = w ++ r.flatMap fun v => d :: v
  | [] => by simp [glue]
  | v :: r => by rw [glue, glue_flat d v r]; simp

theorem flat_sp (l : List Int) : (l.map itoa).flatMap (fun v => (32 : UInt8) :: v) = sp l := by
  unfold sp
  induction l with
  | nil => rfl
  | cons n l ih => rw [List.map_cons, List.flatMap_cons, List.flatMap_cons, ih]

theorem flat_flaws (l : List Fl) : (l.flatMap flawW).flatMap (fun v => (32 : UInt8) :: v) = l.flatMap flawT := by
  induction l with
  | nil => rfl
  | cons f l ih =>
    rw [List.flatMap_cons, List.flatMap_append, ih, List.flatMap_cons]
    congr 1

theorem lineT_glue (r : Ro) : lineT r = glue 32 (wordsOf r) := by
  unfold wordsOf
  rw [glue_flat, List.flatMap_cons, List.flatMap_append, flat_sp, flat_flaws]
  unfold lineT
  simp

/-- a word without its sign -/
def unsign : B → B
  | [] => []
  | c :: r => if c = 45 then r else c :: r
def num18 (w : B) : Option Int := if (unsign w).length ≤ 18 then num w else none
def nums18 : List B → Option (List Int)
  | [] => some []
  | w :: r => match num18 w, nums18 r with
    | some n, some l => some (n :: l)
    | _, _ => none

theorem nums18_cons {w : B} {r : List B} {n : Int} {l : List Int} (h1 : num18 w = some n) (h2 : nums18 r = some l) : nums18 (w :: r) = some (n :: l) := by rw [nums18, h1, h2]
theorem nums18_no1 {w : B} (r : List B) (h1 : num18 w = none) : nums18 (w :: r) = none := by rw [nums18, h1]
theorem nums18_no2 (w : B) {r : List B} (h1 : nums18 r = none) : nums18 (w :: r) = none := by
  rw [nums18, h1]
  cases num18 w <;> rfl
theorem nums18_len : ∀ {ws : List B} {l : List Int}, nums18 ws = some l → l.length = ws.length
  | [], l, h => by have := Option.some.inj h; subst this; rfl
  | w :: r, l, h => by
    rw [nums18] at h
    cases h1 : num18 w with
    | none => rw [h1] at h; cases h
    | some n =>
      cases h2 : nums18 r with
      | none => rw [h1, h2] at h; cases h
      | some l' =>
        rw [h1, h2] at h
        have := Option.some.inj h
        subst this
        rw [List.length_cons, List.length_cons, nums18_len h2]
theorem nums18_app : ∀ (ws vs : List B), nums18 (ws ++ vs) = (nums18 ws).bind fun l => (nums18 vs).map fun k => l ++ k
  | [], vs => by cases h : nums18 vs <;> simp [nums18, h]
  | w :: r, vs => by
    rw [List.cons_append, nums18, nums18_app r vs, nums18]
    cases num18 w with
    | none => rfl
    | some n =>
      cases nums18 r with
      | none => rfl
      | some l => cases nums18 vs <;> rfl

theorem num18_num {w : B} {n : Int} (h : num18 w = some n) : num w = some n := by
  unfold num18 at h; split at h
  · exact h
  · cases h
theorem itoa_nums18 : ∀ {ws : List B} {l : List Int}, nums18 ws = some l → ws = l.map itoa
  | [], l, h => by have := Option.some.inj h; subst this; rfl
  | w :: r, l, h => by
    rw [nums18] at h
    cases h1 : num18 w with
    | none => rw [h1] at h; cases h
    | some n =>
      cases h2 : nums18 r with
      | none => rw [h1, h2] at h; cases h
      | some l' =>
        rw [h1, h2] at h
        have := Option.some.inj h
        subst this
        rw [List.map_cons, itoa_num (num18_num h1), ← itoa_nums18 h2]

theorem digits_short : ∀ (k u : Nat), u < 10 ^ (k + 1) → (decDigits u).length ≤ k + 1
  | 0, u, h => by rw [decDigits_small (by omega)]; simp
  | k + 1, u, h => by
    by_cases hu : u < 10
    · rw [decDigits_small hu]; simp
    · rw [decDigits_big hu, List.length_append]
      have := digits_short k (u / 10) (by rw [Nat.pow_succ] at h; omega)
      simp; omega
theorem itoa_short (n : Int) (h0 : 0 ≤ n) (h : n ≤ 1048576) : (itoa n).length ≤ 7 := by
  unfold itoa
  rw [if_neg (by omega)]
  exact digits_short 6 _ (by omega)
theorem itoa_tone (n : Int) (h0 : -1000 ≤ n) (h : n ≤ 1000) : (itoa n).length ≤ 5 := by
  unfold itoa
  split
  · have := digits_short 3 n.natAbs (by omega)
    simp; omega
  · have := digits_short 3 n.toNat (by omega)
    omega
theorem num18_itoa (n : Int) (h : (itoa n).length ≤ 18) : num18 (itoa n) = some n := by
  unfold num18
  rw [if_pos, num_itoa]
  unfold unsign
  split
  · simp
  · split
    · rename_i e _; rw [e] at h; simp at h; omega
    · rename_i e _; rw [e] at h; exact h
theorem nums18_itoa : ∀ l : List Int, (∀ n ∈ l, (itoa n).length ≤ 18) → nums18 (l.map itoa) = some l
  | [], _ => rfl
  | n :: l, h => by rw [List.map_cons]; exact nums18_cons (num18_itoa n (h n (by simp))) (nums18_itoa l fun m hm => h m (List.mem_cons_of_mem _ hm))

def flawsOf : List B → Option (List Fl)
  | [] => some []
  | k :: a :: b :: c :: d :: r => match nums18 [a, b, c, d], flawsOf r with
    | some [x, y, w, h], some l => if k = Tflaw then some (⟨x, y, w, h⟩ :: l) else none
    | _, _ => none
  | _ => none

def lineOf (s : B) : Option Ro := match cuts 32 s with
  | k :: i :: a :: b :: c :: d :: e :: r => match nums18 [a, b, c, d, e], flawsOf r with
    | some [n, w, tl, ta, tb], some fs => if k = Troll ∧ i ≠ [] then some ⟨i, w, n, tl, ta, tb, fs⟩ else none
    | _, _ => none
  | _ => none

def has (l : List Ro) (i : B) : Bool := l.any fun r => decide (r.id = i)

def goP (i : Nat) (acc : List Ro) : List B → List Ro × Int × Nat
  | [] => (acc, 0, 0)
  | t :: r => if t = [] then goP (i + 1) acc r else if acc.length = 20 then ([], 5, i + 1) else
    match lineOf t with
    | none => ([], 2, i + 1)
    | some ro => if check ro = 0 then (if has acc ro.id then ([], 7, i + 1) else goP (i + 1) (acc ++ [ro]) r) else ([], check ro, i + 1)

def parse (s : B) : List Ro × Int × Nat := if 20000 < s.length then ([], 5, 0) else goP 0 [] (cuts 10 s)

def goQ (done : List Ro) : List Ro → B × Int
  | [] => (textT done, 0)
  | r :: t => if check r = 0 then (if has done r.id then ([], 7) else goQ (done ++ [r]) t) else ([], check r)
def print (l : List Ro) : B × Int := if 20 < l.length then ([], 5) else goQ [] l

/-! ### Print and Parse -/

theorem flaws_words : ∀ l : List Fl, (∀ f ∈ l, ∀ n ∈ [f.x, f.y, f.w, f.h], (itoa n).length ≤ 18) → flawsOf (l.flatMap flawW) = some l
  | [], _ => rfl
  | f :: l, h => by
    have ih := flaws_words l fun g hg => h g (List.mem_cons_of_mem _ hg)
    have hn := nums18_itoa [f.x, f.y, f.w, f.h] (h f (by simp))
    simp only [List.map_cons, List.map_nil] at hn
    rw [List.flatMap_cons]
    show flawsOf (Tflaw :: itoa f.x :: itoa f.y :: itoa f.w :: itoa f.h :: l.flatMap flawW) = _
    rw [flawsOf, hn, ih]
    simp

theorem words_flaws : ∀ (k : Nat) (ws : List B) (l : List Fl), ws.length ≤ k → flawsOf ws = some l → ws = l.flatMap flawW
  | _, [], l, _, h => by have := Option.some.inj h; subst this; rfl
  | 0, k :: _, _, hk, _ => by simp at hk
  | _, [_], _, _, h => by cases h
  | _, [_, _], _, _, h => by cases h
  | _, [_, _, _], _, _, h => by cases h
  | _, [_, _, _, _], _, _, h => by cases h
  | m + 1, k :: a :: b :: c :: d :: r, l, hk, h => by
    rw [flawsOf] at h
    cases h1 : nums18 [a, b, c, d] with
    | none => rw [h1] at h; cases h
    | some ns =>
      have hl := nums18_len h1
      match ns, hl with
      | [x, y, w, t], _ =>
        cases h2 : flawsOf r with
        | none => rw [h1, h2] at h; cases h
        | some fs =>
          rw [h1, h2] at h
          simp only at h
          split at h
          · rename_i e
            have := Option.some.inj h
            subst this
            have ih := words_flaws m r fs (by simp at hk; omega) h2
            have hw := itoa_nums18 h1
            simp only [List.map_cons, List.map_nil, List.cons.injEq, and_true] at hw
            obtain ⟨rfl, rfl, rfl, rfl⟩ := hw
            rw [List.flatMap_cons, ← ih, e]; rfl
          · cases h

theorem lineOf_text {s : B} {r : Ro} (h : lineOf s = some r) : lineT r = s := by
  rw [lineT_glue, ← glue_cuts 32 s]
  unfold lineOf at h
  split at h
  · rename_i k i a b c d e rest hc
    rw [hc]
    cases h1 : nums18 [a, b, c, d, e] with
    | none => rw [h1] at h; cases h
    | some ns =>
      have hl := nums18_len h1
      match ns, hl with
      | [n, w, tl, ta, tb], _ =>
        cases h2 : flawsOf rest with
        | none => rw [h1, h2] at h; cases h
        | some fs =>
          rw [h1, h2] at h
          simp only at h
          split at h
          · rename_i hk
            have := Option.some.inj h
            subst this
            have hw := itoa_nums18 h1
            simp only [List.map_cons, List.map_nil, List.cons.injEq, and_true] at hw
            obtain ⟨rfl, rfl, rfl, rfl, rfl⟩ := hw
            have := words_flaws _ rest fs (Nat.le_refl _) h2
            unfold wordsOf
            rw [this, hk.1]; rfl
          · cases h
  · cases h

theorem id_no {s : B} (h : idOk s = true) {d : UInt8} (hd : d.toNat < 48) : d ∉ s := by
  intro hm
  simp only [idOk, Bool.and_eq_true, List.all_eq_true] at h
  obtain ⟨_, h1, h2⟩ := h
  rw [← List.take_append_drop 1 s, List.mem_append] at hm
  rcases hm with hm | hm
  · have := h1 d hm; simp [cap] at this; omega
  · have := h2 d hm; simp [cap, oth] at this; omega

theorem words_free (r : Ro) (h : Valid r) {d : UInt8} (hd : d.toNat < 45) : ∀ w ∈ wordsOf r, d ∉ w := by
  intro w hw
  have hT : ∀ t ∈ [Troll, Tflaw], d ∉ t := by
    intro t ht hm
    have : ∀ t ∈ [Troll, Tflaw], ∀ c ∈ t, 90 ≤ c.toNat := by decide
    have := this t ht d hm
    omega
  have hI : ∀ l : List Int, ∀ v ∈ l.map itoa, d ∉ v := by
    intro l v hv
    obtain ⟨n, _, rfl⟩ := List.mem_map.1 hv
    exact itoa_no n hd
  unfold wordsOf at hw
  rcases List.mem_cons.1 hw with rfl | hw
  · exact hT _ (by simp)
  · rcases List.mem_cons.1 hw with rfl | hw
    · exact id_no h.id (by omega)
    · rcases List.mem_append.1 hw with hw | hw
      · exact hI _ w hw
      · obtain ⟨f, _, hw⟩ := List.mem_flatMap.1 hw
        unfold flawW at hw
        rcases List.mem_cons.1 hw with rfl | hw
        · exact hT _ (by simp)
        · exact hI _ w hw

theorem Valid.short {r : Ro} (h : Valid r) : (∀ n ∈ [r.len, r.wid, r.tl, r.ta, r.tb], (itoa n).length ≤ 7) ∧ ∀ f ∈ r.fl, ∀ n ∈ [f.x, f.y, f.w, f.h], (itoa n).length ≤ 7 := by
  have h1 := h.len
  have h2 := h.wid
  have h3 := h.tone
  refine ⟨?_, ?_⟩
  · intro n hn
    simp only [List.mem_cons, List.not_mem_nil, or_false] at hn
    rcases hn with rfl | rfl | rfl | rfl | rfl
    · exact itoa_short _ (by omega) (by omega)
    · exact itoa_short _ (by omega) (by omega)
    · have := itoa_tone r.tl (by omega) (by omega); omega
    · have := itoa_tone r.ta (by omega) (by omega); omega
    · have := itoa_tone r.tb (by omega) (by omega); omega
  · intro f hf n hn
    have h4 := h.flaw f hf
    simp only [List.mem_cons, List.not_mem_nil, or_false] at hn
    rcases hn with rfl | rfl | rfl | rfl <;> exact itoa_short _ (by omega) (by omega)

theorem text_lineOf {r : Ro} (h : Valid r) : lineOf (lineT r) = some r := by
  unfold lineOf
  rw [lineT_glue, cuts_glue (by simp [wordsOf]) (words_free r h (by decide))]
  obtain ⟨hs1, hs2⟩ := h.short
  have hn := nums18_itoa [r.len, r.wid, r.tl, r.ta, r.tb] (fun n hn => by have := hs1 n hn; omega)
  have hf := flaws_words r.fl (fun f hf n hn => by have := hs2 f hf n hn; omega)
  have hi : r.id ≠ [] := by
    intro e
    have := h.id
    rw [e] at this
    simp [idOk] at this
  simp only [List.map_cons, List.map_nil] at hn
  show (match Troll :: r.id :: itoa r.len :: itoa r.wid :: itoa r.tl :: itoa r.ta :: itoa r.tb :: r.fl.flatMap flawW with
    | k :: i :: a :: b :: c :: d :: e :: r => match nums18 [a, b, c, d, e], flawsOf r with
      | some [n, w, tl, ta, tb], some fs => if k = Troll ∧ i ≠ [] then some ⟨i, w, n, tl, ta, tb, fs⟩ else none
      | _, _ => none
    | _ => none) = some r
  simp [hn, hf, hi]

theorem lineT_ne (r : Ro) : lineT r ≠ [] := by unfold lineT Troll; simp
theorem lineT_no {r : Ro} (h : Valid r) : (10 : UInt8) ∉ lineT r := by
  rw [lineT_glue]
  intro hm
  have hfr := words_free r h (d := 10) (by decide)
  rw [show wordsOf r = Troll :: (wordsOf r).tail from rfl, glue_flat, List.mem_append] at hm
  rcases hm with hm | hm
  · exact absurd hm (by decide)
  · obtain ⟨v, hv, hm⟩ := List.mem_flatMap.1 hm
    rcases List.mem_cons.1 hm with h1 | h1
    · exact absurd h1 (by decide)
    · exact hfr v (List.mem_cons_of_mem _ hv) h1

theorem goQ_ok : ∀ (t done : List Ro) (s : B), goQ done t = (s, 0) → s = textT (done ++ t) ∧ ∀ r ∈ t, Valid r
  | [], done, s, h => by
    rw [goQ] at h
    have := (Prod.mk.inj h).1
    exact ⟨by simp [this], fun r hr => by cases hr⟩
  | r :: t, done, s, h => by
    rw [goQ] at h
    split at h
    · rename_i hc
      split at h
      · exact absurd (Prod.mk.inj h).2 (by decide)
      · obtain ⟨h1, h2⟩ := goQ_ok t (done ++ [r]) s h
        refine ⟨by rw [h1]; simp, fun q hq => ?_⟩
        rcases List.mem_cons.1 hq with rfl | hq
        · exact check_ok hc
        · exact h2 q hq
    · rename_i hc
      exact absurd (Prod.mk.inj h).2 hc
theorem goQ_err : ∀ (t done : List Ro) (s : B) (e : Int), goQ done t = (s, e) → e ≠ 0 → s = []
  | [], done, s, e, h, he => by rw [goQ] at h; exact absurd (Prod.mk.inj h).2.symm he
  | r :: t, done, s, e, h, he => by
    rw [goQ] at h
    split at h
    · split at h
      · exact (Prod.mk.inj h).1.symm
      · exact goQ_err t _ s e h he
    · exact (Prod.mk.inj h).1.symm
theorem print_err {l : List Ro} {s : B} {e : Int} (h : print l = (s, e)) (he : e ≠ 0) : s = [] := by
  unfold print at h
  split at h
  · exact (Prod.mk.inj h).1.symm
  · exact goQ_err l [] s e h he

/-- the lines of a text of rolls -/
theorem cuts_text : ∀ l : List Ro, (∀ r ∈ l, Valid r) → cuts 10 (textT l) = l.map lineT ++ [[]]
  | [], _ => rfl
  | r :: l, h => by
    unfold textT
    rw [List.flatMap_cons, List.append_assoc, List.singleton_append, cuts_app (lineT_no (h r (by simp)))]
    have ih := cuts_text l fun q hq => h q (List.mem_cons_of_mem _ hq)
    unfold textT at ih
    rw [ih]; rfl

theorem goP_end (i : Nat) (acc : List Ro) : goP i acc [[]] = (acc, 0, 0) := by rw [goP, if_pos rfl, goP]

theorem goP_text : ∀ (t done : List Ro) (i : Nat) (s : B), (done ++ t).length ≤ 20 → goQ done t = (s, 0) → goP i done (t.map lineT ++ [[]]) = (done ++ t, 0, 0)
  | [], done, i, s, _, _ => by rw [List.map_nil, List.nil_append, goP_end, List.append_nil]
  | r :: t, done, i, s, hl, h => by
    rw [goQ] at h
    split at h
    · rename_i hc
      split at h
      · exact absurd (Prod.mk.inj h).2 (by decide)
      · rename_i hh
        have ih := goP_text t (done ++ [r]) (i + 1) s (by simp at hl ⊢; omega) h
        rw [List.map_cons, List.cons_append, goP, if_neg (lineT_ne r), if_neg (by simp at hl; omega), text_lineOf (check_ok hc)]
        simp only
        rw [if_pos hc, if_neg hh, ih]; simp
    · rename_i hc
      exact absurd (Prod.mk.inj h).2 hc

theorem sp_length (l : List Int) (h : ∀ n ∈ l, (itoa n).length ≤ 7) : (sp l).length ≤ 8 * l.length := by
  unfold sp
  induction l with
  | nil => simp
  | cons n l ih =>
    rw [List.flatMap_cons, List.length_append, List.length_cons, List.length_cons]
    have := h n (by simp)
    have := ih fun m hm => h m (List.mem_cons_of_mem _ hm)
    omega
theorem flat_length {α : Type} (g : α → B) (k : Nat) (l : List α) (h : ∀ a ∈ l, (g a).length ≤ k) : (l.flatMap g).length ≤ k * l.length := by
  induction l with
  | nil => simp
  | cons a l ih =>
    rw [List.flatMap_cons, List.length_append, List.length_cons, Nat.mul_succ]
    have := h a (by simp)
    have := ih fun b hb => h b (List.mem_cons_of_mem _ hb)
    omega
theorem lineT_length {r : Ro} (h : Valid r) : (lineT r).length ≤ 793 := by
  obtain ⟨hs1, hs2⟩ := h.short
  have h1 := sp_length _ hs1
  have h2 := flat_length flawT 37 r.fl (fun f hf => by
    have := sp_length _ (hs2 f hf)
    unfold flawT
    simp [Tflaw] at this ⊢; omega)
  have h3 := h.few
  have h4 : r.id.length ≤ 8 := by
    have := h.id
    simp only [idOk, Bool.and_eq_true, decide_eq_true_eq] at this
    omega
  unfold lineT
  simp [Troll] at h1 h2 ⊢; omega
theorem textT_length {l : List Ro} (h : ∀ r ∈ l, Valid r) (hl : l.length ≤ 20) : (textT l).length ≤ 20000 := by
  have := flat_length (fun r : Ro => lineT r ++ [10]) 794 l (fun r hr => by have := lineT_length (h r hr); simp; omega)
  unfold textT; omega

theorem round_trip {l : List Ro} {s : B} (h : print l = (s, 0)) : parse s = (l, 0, 0) := by
  unfold print at h
  split at h
  · exact absurd (Prod.mk.inj h).2 (by decide)
  · rename_i hl
    obtain ⟨h1, h2⟩ := goQ_ok l [] s h
    rw [List.nil_append] at h1
    unfold parse
    rw [if_neg (by rw [h1]; have := textT_length h2 (by omega); omega), h1, cuts_text l h2]
    have := goP_text l [] 0 s (by simp; omega) h
    simpa using this

/-! ### Texts that are read -/

theorem goP_err : ∀ (ls : List B) (i : Nat) (acc : List Ro) (l : List Ro) (e : Int) (n : Nat), goP i acc ls = (l, e, n) → e ≠ 0 → l = []
  | [], i, acc, l, e, n, h, he => by rw [goP] at h; injection h with _ h; injection h with h; exact absurd h.symm he
  | t :: r, i, acc, l, e, n, h, he => by
    rw [goP] at h
    split at h
    · exact goP_err r _ _ l e n h he
    · split at h
      · exact (Prod.mk.inj h).1.symm
      · split at h
        · exact (Prod.mk.inj h).1.symm
        · split at h
          · split at h
            · exact (Prod.mk.inj h).1.symm
            · exact goP_err r _ _ l e n h he
          · exact (Prod.mk.inj h).1.symm
theorem parse_err {s : B} {l : List Ro} {e : Int} {n : Nat} (h : parse s = (l, e, n)) (he : e ≠ 0) : l = [] := by
  unfold parse at h
  split at h
  · exact (Prod.mk.inj h).1.symm
  · exact goP_err _ _ _ l e n h he

/-- a text without its empty lines -/
def dense (s : B) : B := ((cuts 10 s).filter fun t => decide (t ≠ [])).flatMap fun t => t ++ [10]

theorem goQ_snoc : ∀ (t done : List Ro) (r : Ro) (s : B), goQ done t = (s, 0) → check r = 0 → has (done ++ t) r.id = false → goQ done (t ++ [r]) = (textT (done ++ t ++ [r]), 0)
  | [], done, r, s, _, hc, hh => by
    rw [List.append_nil] at hh ⊢
    rw [List.nil_append, goQ, if_pos hc, if_neg (by simp [hh]), goQ]
  | q :: t, done, r, s, h, hc, hh => by
    rw [goQ] at h
    rw [List.cons_append, goQ]
    split at h
    · rename_i hq
      split at h
      · exact absurd (Prod.mk.inj h).2 (by decide)
      · rename_i hn
        rw [if_pos hq, if_neg hn, goQ_snoc t (done ++ [q]) r s h hc (by simpa using hh)]
        simp
    · rename_i hq
      exact absurd (Prod.mk.inj h).2 hq

theorem goP_dense : ∀ (ls : List B) (i : Nat) (acc l : List Ro) (n : Nat), acc.length ≤ 20 → (∃ s, goQ [] acc = (s, 0)) → goP i acc ls = (l, 0, n) →
    n = 0 ∧ l.length ≤ 20 ∧ goQ [] l = (textT acc ++ (ls.filter fun t => decide (t ≠ [])).flatMap fun t => t ++ [10], 0)
  | [], i, acc, l, n, hl, ⟨s, hs⟩, h => by
    rw [goP] at h
    injection h with h1 h; injection h with _ h
    subst h1
    refine ⟨h.symm, hl, ?_⟩
    rw [hs, (goQ_ok acc [] s hs).1]; simp
  | t :: r, i, acc, l, n, hl, hs, h => by
    rw [goP] at h
    split at h
    · rename_i ht
      obtain ⟨h1, h2, h3⟩ := goP_dense r _ _ l n hl hs h
      refine ⟨h1, h2, ?_⟩
      rw [h3, ht]; simp
    · rename_i ht
      split at h
      · injection h with _ h; injection h with h; exact absurd h (by decide)
      · rename_i hl2
        split at h
        · injection h with _ h; injection h with h; exact absurd h (by decide)
        · rename_i ro hro
          split at h
          · rename_i hc
            split at h
            · injection h with _ h; injection h with h; exact absurd h (by decide)
            · rename_i hh
              obtain ⟨s, hs⟩ := hs
              have hq := goQ_snoc acc [] ro s hs hc (by simpa using hh)
              obtain ⟨h1, h2, h3⟩ := goP_dense r _ (acc ++ [ro]) l n (by simp; omega) ⟨_, hq⟩ h
              refine ⟨h1, h2, ?_⟩
              have hx : textT (acc ++ [ro]) = textT acc ++ (t ++ [10]) := by
                unfold textT
                rw [List.flatMap_append, ← lineOf_text hro]; simp
              rw [h3, hx, List.filter_cons_of_pos (by simpa using ht), List.flatMap_cons]
              simp
          · rename_i hc
            injection h with _ h; injection h with h; exact absurd h hc

theorem texts {s : B} {l : List Ro} {n : Nat} (h : parse s = (l, 0, n)) : print l = (dense s, 0) := by
  unfold parse at h
  split at h
  · injection h with _ h; injection h with h; exact absurd h (by decide)
  · obtain ⟨_, h2, h3⟩ := goP_dense _ _ [] l n (by simp) ⟨_, rfl⟩ h
    unfold print dense
    rw [if_neg (by omega), h3]; rfl

end Go.Proofs.YtphaigncbenmmaaGreatDoor
