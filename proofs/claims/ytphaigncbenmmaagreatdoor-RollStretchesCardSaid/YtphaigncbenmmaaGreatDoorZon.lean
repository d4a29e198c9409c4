/- Stretches in plain Lean: intervals that are ascending with a gap between them are determined by the positions that they cover. -/
namespace Go.Proofs.YtphaigncbenmmaaGreatDoor

structure Fl where
  x : Int
  y : Int
  w : Int
  h : Int
deriving DecidableEq

/-- a position lies in one of the zones -/
def InZ (zs : List (Int × Int)) (x : Int) : Prop := ∃ z ∈ zs, z.1 ≤ x ∧ x < z.2

/-- ascending zones, none empty, with a gap between two -/
def Sep (zs : List (Int × Int)) : Prop := zs.Pairwise (fun a b => a.2 < b.1) ∧ ∀ z ∈ zs, z.1 < z.2

theorem Sep.tail {z : Int × Int} {zs : List (Int × Int)} (h : Sep (z :: zs)) : Sep zs := ⟨(List.pairwise_cons.1 h.1).2, fun y hy => h.2 y (List.mem_cons_of_mem _ hy)⟩
theorem Sep.head {z : Int × Int} {zs : List (Int × Int)} (h : Sep (z :: zs)) : z.1 < z.2 := h.2 z (by simp)
theorem Sep.after {z : Int × Int} {zs : List (Int × Int)} (h : Sep (z :: zs)) : ∀ y ∈ zs, z.2 < y.1 := (List.pairwise_cons.1 h.1).1
theorem Sep.least {z : Int × Int} {zs : List (Int × Int)} (h : Sep (z :: zs)) {x : Int} (hx : InZ (z :: zs) x) : z.1 ≤ x := by
  obtain ⟨y, hy, h1, h2⟩ := hx
  have := h.head
  rcases List.mem_cons.1 hy with rfl | hy
  · exact h1
  · have := h.after y hy; omega
theorem Sep.notEnd {z : Int × Int} {zs : List (Int × Int)} (h : Sep (z :: zs)) : ¬ InZ (z :: zs) z.2 := by
  rintro ⟨y, hy, h1, h2⟩
  rcases List.mem_cons.1 hy with rfl | hy
  · omega
  · have := h.after y hy; omega
theorem Sep.first {z : Int × Int} {zs : List (Int × Int)} (h : Sep (z :: zs)) : InZ (z :: zs) z.1 := ⟨z, by simp, by omega, h.head⟩
theorem Sep.inTail {z : Int × Int} {zs : List (Int × Int)} (h : Sep (z :: zs)) (x : Int) : InZ zs x ↔ InZ (z :: zs) x ∧ z.2 < x := by
  constructor
  · rintro ⟨y, hy, h1, h2⟩
    have := h.after y hy
    exact ⟨⟨y, List.mem_cons_of_mem _ hy, h1, h2⟩, by omega⟩
  · rintro ⟨⟨y, hy, h1, h2⟩, h3⟩
    rcases List.mem_cons.1 hy with rfl | hy
    · omega
    · exact ⟨y, hy, h1, h2⟩

theorem Sep.unique : ∀ {zs ys : List (Int × Int)}, Sep zs → Sep ys → (∀ x, InZ zs x ↔ InZ ys x) → zs = ys
  | [], [], _, _, _ => rfl
  | [], y :: ys, _, hy, h => by
    obtain ⟨z, hz, _⟩ := (h y.1).2 hy.first
    cases hz
  | z :: zs, [], hz, _, h => by
    obtain ⟨y, hy, _⟩ := (h z.1).1 hz.first
    cases hy
  | z :: zs, y :: ys, hz, hy, h => by
    have h1 : z.1 ≤ y.1 := hz.least ((h _).2 hy.first)
    have h2 : y.1 ≤ z.1 := hy.least ((h _).1 hz.first)
    have hzl := hz.head
    have hyl := hy.head
    have h3 : y.2 ≤ z.2 := by
      rcases Int.lt_or_le z.2 y.2 with hlt | hle
      · exact absurd ((h z.2).2 ⟨y, by simp, by omega, hlt⟩) hz.notEnd
      · exact hle
    have h4 : z.2 ≤ y.2 := by
      rcases Int.lt_or_le y.2 z.2 with hlt | hle
      · exact absurd ((h y.2).1 ⟨z, by simp, by omega, hlt⟩) hy.notEnd
      · exact hle
    have e : z = y := Prod.ext (by omega) (by omega)
    subst e
    rw [Sep.unique hz.tail hy.tail (fun x => by rw [hz.inTail, hy.inTail, h x])]

/-- a flaw covers the cloth between x and x + 1 -/
def Cov (fs : List Fl) (x : Int) : Prop := ∃ f ∈ fs, f.x ≤ x ∧ x < f.x + f.w

/-- what the zones of a roll of length n with the flaws fs are -/
structure Good (n : Int) (fs : List Fl) (zs : List (Int × Int)) : Prop where
  sep : Sep zs
  lo : ∀ z ∈ zs, 0 ≤ z.1
  hi : ∀ z ∈ zs, z.2 ≤ n
  cov : ∀ x, 0 ≤ x → x < n → (InZ zs x ↔ ¬ Cov fs x)

theorem Good.inZ {n : Int} {fs : List Fl} {zs : List (Int × Int)} (h : Good n fs zs) (x : Int) : InZ zs x ↔ 0 ≤ x ∧ x < n ∧ ¬ Cov fs x := by
  constructor
  · intro hx
    obtain ⟨z, hz, h1, h2⟩ := hx
    have := h.lo z hz
    have := h.hi z hz
    exact ⟨by omega, by omega, (h.cov x (by omega) (by omega)).1 ⟨z, hz, h1, h2⟩⟩
  · rintro ⟨h1, h2, h3⟩
    exact (h.cov x h1 h2).2 h3

theorem Good.unique {n : Int} {fs gs : List Fl} {zs ys : List (Int × Int)} (h : Good n fs zs) (k : Good n gs ys) (hc : ∀ x, Cov fs x ↔ Cov gs x) : zs = ys :=
  Sep.unique h.sep k.sep fun x => by rw [h.inZ, k.inZ, hc x]

/-! ### The sweep over flaws in ascending order -/

/-- the zones up to position c: all before c is settled, and the last zone ends before c or the cloth is clean from there -/
structure Upto (fs : List Fl) (c : Int) (zs : List (Int × Int)) : Prop where
  sep : Sep zs
  lo : ∀ z ∈ zs, 0 ≤ z.1
  hi : ∀ z ∈ zs, z.2 < c
  cov : ∀ x, 0 ≤ x → x < c → (InZ zs x ↔ ¬ Cov fs x)

def sweep : Int → List Fl → List (Int × Int)
  | _, [] => []
  | c, f :: r => (if c < f.x then [(c, f.x)] else []) ++ sweep (max c (f.x + f.w)) r

def sweepL (least : Int) : Int → List Fl → List (Int × Int)
  | _, [] => []
  | c, f :: r => (if c < f.x ∧ least ≤ f.x - c then [(c, f.x)] else []) ++ sweepL least (max c (f.x + f.w)) r

def longer (least : Int) (zs : List (Int × Int)) : List (Int × Int) := zs.filter fun z => decide (least ≤ z.2 - z.1)

theorem sweepL_eq (least : Int) : ∀ (fs : List Fl) (c : Int), sweepL least c fs = longer least (sweep c fs)
  | [], c => rfl
  | f :: r, c => by
    rw [sweepL, sweep, sweepL_eq least r]
    unfold longer
    rw [List.filter_append]
    congr 1
    by_cases h1 : c < f.x
    · by_cases h2 : least ≤ f.x - c
      · rw [if_pos ⟨h1, h2⟩, if_pos h1]; simp [h2]
      · rw [if_neg (fun h => h2 h.2), if_pos h1]; simp [h2]
    · rw [if_neg (fun h => h1 h.1), if_neg h1]; simp

theorem Sep.snoc {zs : List (Int × Int)} (h : Sep zs) {a b : Int} (hab : a < b) (hl : ∀ z ∈ zs, z.2 < a) : Sep (zs ++ [(a, b)]) := by
  refine ⟨?_, ?_⟩
  · rw [List.pairwise_append]
    refine ⟨h.1, by simp, fun z hz y hy => ?_⟩
    rw [List.mem_singleton] at hy
    subst hy
    exact hl z hz
  · intro z hz
    rcases List.mem_append.1 hz with hz | hz
    · exact h.2 z hz
    · rw [List.mem_singleton] at hz; subst hz; exact hab

theorem inZ_snoc (zs : List (Int × Int)) (a b x : Int) : InZ (zs ++ [(a, b)]) x ↔ InZ zs x ∨ (a ≤ x ∧ x < b) := by
  constructor
  · rintro ⟨z, hz, h⟩
    rcases List.mem_append.1 hz with hz | hz
    · exact .inl ⟨z, hz, h⟩
    · rw [List.mem_singleton] at hz; subst hz; exact .inr h
  · rintro (⟨z, hz, h⟩ | h)
    · exact ⟨z, List.mem_append_left _ hz, h⟩
    · exact ⟨(a, b), by simp, h⟩

/-- a flaw at the front of what has been settled: nothing is open behind it -/
theorem Upto.over {fs : List Fl} {c d : Int} {zs : List (Int × Int)} (h : Upto fs c zs) (hcd : c ≤ d) (hcov : ∀ x, c ≤ x → x < d → Cov fs x) : Upto fs d zs := by
  refine ⟨h.sep, h.lo, fun z hz => by have := h.hi z hz; omega, fun x h0 hx => ?_⟩
  rcases Int.lt_or_le x c with hlt | hle
  · exact h.cov x h0 hlt
  · constructor
    · rintro ⟨z, hz, h1, h2⟩
      have := h.hi z hz
      omega
    · intro hn
      exact absurd (hcov x hle hx) hn

/-- clean cloth from c to b: a new zone; then a flaw covers from b to d -/
theorem Upto.zone {fs : List Fl} {c b d : Int} {zs : List (Int × Int)} (h : Upto fs c zs) (hc0 : 0 ≤ c) (hcb : c < b) (hbd : b < d) (hfree : ∀ x, c ≤ x → x < b → ¬ Cov fs x) (hcov : ∀ x, b ≤ x → x < d → Cov fs x) :
    Upto fs d (zs ++ [(c, b)]) := by
  refine ⟨h.sep.snoc hcb h.hi, ?_, ?_, fun x h0 hx => ?_⟩
  · intro z hz
    rcases List.mem_append.1 hz with hz | hz
    · exact h.lo z hz
    · rw [List.mem_singleton] at hz; subst hz; exact hc0
  · intro z hz
    rcases List.mem_append.1 hz with hz | hz
    · have := h.hi z hz; omega
    · rw [List.mem_singleton] at hz; subst hz; exact hbd
  · rw [inZ_snoc]
    rcases Int.lt_or_le x c with hlt | hle
    · rw [← h.cov x h0 hlt]
      constructor
      · rintro (h1 | h1)
        · exact h1
        · omega
      · exact .inl
    · rcases Int.lt_or_le x b with hlt | hle2
      · exact ⟨fun _ => hfree x hle hlt, fun _ => .inr ⟨hle, hlt⟩⟩
      · constructor
        · rintro (⟨z, hz, h1, h2⟩ | h1)
          · have := h.hi z hz; omega
          · omega
        · intro hn
          exact absurd (hcov x hle2 hx) hn

/-- the end: clean cloth from c to n, or none is left -/
theorem Upto.last {fs : List Fl} {c n : Int} {zs : List (Int × Int)} (h : Upto fs c zs) (hc0 : 0 ≤ c) (hcn : c < n) (hfree : ∀ x, c ≤ x → x < n → ¬ Cov fs x) : Good n fs (zs ++ [(c, n)]) := by
  refine ⟨h.sep.snoc hcn h.hi, ?_, ?_, fun x h0 hx => ?_⟩
  · intro z hz
    rcases List.mem_append.1 hz with hz | hz
    · exact h.lo z hz
    · rw [List.mem_singleton] at hz; subst hz; exact hc0
  · intro z hz
    rcases List.mem_append.1 hz with hz | hz
    · have := h.hi z hz; omega
    · rw [List.mem_singleton] at hz; subst hz; exact Int.le_refl _
  · rw [inZ_snoc]
    rcases Int.lt_or_le x c with hlt | hle
    · rw [← h.cov x h0 hlt]
      constructor
      · rintro (h1 | h1)
        · exact h1
        · omega
      · exact .inl
    · exact ⟨fun _ => hfree x hle hx, fun _ => .inr ⟨hle, hx⟩⟩
theorem Upto.none {fs : List Fl} {n : Int} {zs : List (Int × Int)} (h : Upto fs n zs) : Good n fs zs :=
  ⟨h.sep, h.lo, fun z hz => Int.le_of_lt (h.hi z hz), h.cov⟩

theorem Upto.start {fs : List Fl} : Upto fs 0 [] := ⟨⟨List.Pairwise.nil, fun _ h => (by cases h)⟩, fun _ h => (by cases h), fun _ h => (by cases h), fun x h0 hx => (by omega)⟩

/-- every flaw lies on the roll -/
def Fits (n : Int) (fs : List Fl) : Prop := ∀ f ∈ fs, 0 ≤ f.x ∧ 1 ≤ f.w ∧ f.x + f.w ≤ n

/-- the sweep over the flaws that are left (all that begin before are settled) -/
theorem sweep_good {n : Int} {fs : List Fl} (hn : 0 ≤ n) (hfit : Fits n fs) (e : Fl) (he : e.x = n) : ∀ (r done : List Fl) (c : Int) (zs : List (Int × Int)),
    (∀ f, f ∈ fs ↔ f ∈ done ∨ f ∈ r) → r.Pairwise (fun a b => a.x ≤ b.x) → 0 ≤ c → c ≤ n → (∀ f ∈ done, f.x + f.w ≤ c) → Upto fs c zs → Good n fs (zs ++ sweep c (r ++ [e]))
  | [], done, c, zs, hm, _, h0, hcn, hd, hu => by
    have hfree : ∀ x, c ≤ x → x < n → ¬ Cov fs x := by
      rintro x h1 h2 ⟨f, hf, h3, h4⟩
      rcases (hm f).1 hf with h | h
      · have := hd f h; omega
      · cases h
    rw [List.nil_append, sweep, sweep, he, List.append_nil]
    by_cases hlt : c < n
    · rw [if_pos hlt]
      exact hu.last h0 hlt hfree
    · have e1 : c = n := by omega
      subst e1
      rw [if_neg (by omega), List.append_nil]
      exact hu.none
  | f :: r, done, c, zs, hm, hs, h0, hcn, hd, hu => by
    obtain ⟨hs1, hs2⟩ := List.pairwise_cons.1 hs
    have hf : f ∈ fs := (hm f).2 (.inr (by simp))
    obtain ⟨hf1, hf2, hf3⟩ := hfit f hf
    rw [List.cons_append, sweep, ← List.append_assoc]
    have hm' : ∀ g, g ∈ fs ↔ g ∈ (f :: done) ∨ g ∈ r := by
      intro g
      rw [hm g, List.mem_cons, List.mem_cons]
      constructor
      · rintro (h | h | h)
        · exact .inl (.inr h)
        · exact .inl (.inl h)
        · exact .inr h
      · rintro ((h | h) | h)
        · exact .inr (.inl h)
        · exact .inl h
        · exact .inr (.inr h)
    have hd' : ∀ g ∈ f :: done, g.x + g.w ≤ max c (f.x + f.w) := by
      intro g hg
      rcases List.mem_cons.1 hg with rfl | hg
      · omega
      · have := hd g hg; omega
    refine sweep_good hn hfit e he r (f :: done) _ _ hm' hs2 (by omega) (by omega) hd' ?_
    by_cases hlt : c < f.x
    · rw [if_pos hlt, show max c (f.x + f.w) = f.x + f.w by omega]
      refine hu.zone h0 hlt (by omega) ?_ (fun x h1 h2 => ⟨f, hf, h1, h2⟩)
      rintro x h1 h2 ⟨g, hg, h3, h4⟩
      rcases (hm g).1 hg with h | h
      · have := hd g h; omega
      · rcases List.mem_cons.1 h with rfl | h
        · omega
        · have := hs1 g h; omega
    · rw [if_neg hlt, List.append_nil]
      exact hu.over (by omega) (fun x h1 h2 => ⟨f, hf, by omega, by omega⟩)

/-! ### The zones as a function, and the same from whatever order -/

def ins (f : Fl) : List Fl → List Fl
  | [] => [f]
  | g :: r => if f.x ≤ g.x then f :: g :: r else g :: ins f r
def srt : List Fl → List Fl
  | [] => []
  | f :: r => ins f (srt r)
theorem mem_ins (f g : Fl) : ∀ l : List Fl, g ∈ ins f l ↔ g = f ∨ g ∈ l
  | [] => by simp [ins]
  | h :: r => by
    rw [ins]
    split
    · simp
    · rw [List.mem_cons, mem_ins f g r, List.mem_cons]
      constructor
      · rintro (h1 | h1 | h1)
        · exact .inr (.inl h1)
        · exact .inl h1
        · exact .inr (.inr h1)
      · rintro (h1 | h1 | h1)
        · exact .inr (.inl h1)
        · exact .inl h1
        · exact .inr (.inr h1)
theorem mem_srt (g : Fl) : ∀ l : List Fl, g ∈ srt l ↔ g ∈ l
  | [] => by simp [srt]
  | f :: r => by rw [srt, mem_ins, mem_srt g r, List.mem_cons]
theorem ins_sorted (f : Fl) : ∀ l : List Fl, l.Pairwise (fun a b => a.x ≤ b.x) → (ins f l).Pairwise (fun a b => a.x ≤ b.x)
  | [], _ => by simp [ins]
  | g :: r, h => by
    obtain ⟨h1, h2⟩ := List.pairwise_cons.1 h
    rw [ins]
    split
    · rename_i hle
      refine List.pairwise_cons.2 ⟨fun a ha => ?_, h⟩
      rcases List.mem_cons.1 ha with rfl | ha
      · exact hle
      · have := h1 a ha; omega
    · rename_i hle
      refine List.pairwise_cons.2 ⟨fun a ha => ?_, ins_sorted f r h2⟩
      rcases (mem_ins f a r).1 ha with rfl | ha
      · omega
      · exact h1 a ha
theorem srt_sorted : ∀ l : List Fl, (srt l).Pairwise (fun a b => a.x ≤ b.x)
  | [] => by simp [srt]
  | f :: r => ins_sorted f _ (srt_sorted r)

def zones (n : Int) (fs : List Fl) : List (Int × Int) := sweep 0 (srt fs ++ [⟨n, 0, 0, 0⟩])

theorem sweep_any {n : Int} {fs r : List Fl} (hn : 0 ≤ n) (hfit : Fits n fs) (hm : ∀ f, f ∈ r ↔ f ∈ fs) (hs : r.Pairwise (fun a b => a.x ≤ b.x)) (e : Fl) (he : e.x = n) : Good n fs (sweep 0 (r ++ [e])) := by
  have := sweep_good hn hfit e he r [] 0 [] (fun f => by rw [hm f]; simp) hs (Int.le_refl _) hn (fun f hf => by cases hf) Upto.start
  simpa using this
theorem zones_good {n : Int} {fs : List Fl} (hn : 0 ≤ n) (hfit : Fits n fs) : Good n fs (zones n fs) :=
  sweep_any hn hfit (fun f => mem_srt f fs) (srt_sorted fs) _ rfl
/-- whatever order: the sweep over flaws in ascending order gives the zones -/
theorem sweep_zones {n : Int} {fs r : List Fl} (hn : 0 ≤ n) (hfit : Fits n fs) (hm : ∀ f, f ∈ r ↔ f ∈ fs) (hs : r.Pairwise (fun a b => a.x ≤ b.x)) : sweep 0 (r ++ [⟨n, 0, 0, 0⟩]) = zones n fs :=
  (sweep_any hn hfit hm hs _ rfl).unique (zones_good hn hfit) fun _ => Iff.rfl

/-! ### The reference: behind and next -/

def hop (o : Int) (f : Fl) : Int := if f.x ≤ o then max o (f.x + f.w) else o
def round1 (fs : List Fl) (o : Int) : Int := fs.foldl hop o
def rounds (fs : List Fl) : Nat → Int → Int
  | 0, o => o
  | k + 1, o => round1 fs (rounds fs k o)
def behind (fs : List Fl) (at_ : Int) : Int := rounds fs fs.length at_

theorem hop_le (o : Int) (f : Fl) : o ≤ hop o f := by unfold hop; split <;> omega
theorem foldl_le : ∀ (fs : List Fl) (o : Int), o ≤ fs.foldl hop o
  | [], _ => Int.le_refl _
  | f :: r, o => Int.le_trans (hop_le o f) (foldl_le r _)
theorem rounds_le (fs : List Fl) : ∀ (k : Nat) (o : Int), o ≤ rounds fs k o
  | 0, _ => Int.le_refl _
  | k + 1, o => Int.le_trans (rounds_le fs k o) (foldl_le fs _)

/-- nothing that begins at or before o reaches beyond it -/
def Shut (fs : List Fl) (o : Int) : Prop := ∀ f ∈ fs, f.x ≤ o → f.x + f.w ≤ o

theorem hop_shut {o : Int} {f : Fl} (h : f.x ≤ o → f.x + f.w ≤ o) : hop o f = o := by
  unfold hop; split
  · rename_i h1; have := h h1; omega
  · rfl
theorem foldl_shut : ∀ {fs : List Fl} {o : Int}, Shut fs o → fs.foldl hop o = o
  | [], _, _ => rfl
  | f :: r, o, h => by
    rw [List.foldl_cons, hop_shut (h f (by simp))]
    exact foldl_shut fun g hg => h g (List.mem_cons_of_mem _ hg)
theorem foldl_fix : ∀ {fs : List Fl} {o : Int}, fs.foldl hop o = o → Shut fs o
  | [], _, _ => fun f hf => by cases hf
  | f :: r, o, h => by
    rw [List.foldl_cons] at h
    have h1 := hop_le o f
    have h2 := foldl_le r (hop o f)
    have e : hop o f = o := by omega
    rw [e] at h
    intro g hg hx
    rcases List.mem_cons.1 hg with rfl | hg
    · unfold hop at e; rw [if_pos hx] at e; omega
    · exact foldl_fix h g hg hx

/-- how many flaws begin at or before o and end there or before -/
def taken (fs : List Fl) (o : Int) : Nat := fs.countP fun f => decide (f.x + f.w ≤ o)

theorem taken_mono (fs : List Fl) {o p : Int} (h : o ≤ p) : taken fs o ≤ taken fs p :=
  List.countP_mono_left fun f _ hf => by simp at hf ⊢; omega
theorem taken_grow {fs : List Fl} {o p : Int} (h : o ≤ p) {f : Fl} (hf : f ∈ fs) (h1 : o < f.x + f.w) (h2 : f.x + f.w ≤ p) : taken fs o + 1 ≤ taken fs p := by
  unfold taken
  induction fs with
  | nil => cases hf
  | cons g r ih =>
    rw [List.countP_cons, List.countP_cons]
    rcases List.mem_cons.1 hf with rfl | hf
    · have := taken_mono r h
      unfold taken at this
      simp only [show decide (f.x + f.w ≤ o) = false by simp; omega, show decide (f.x + f.w ≤ p) = true by simp; omega]
      simp; omega
    · have := ih hf
      by_cases hg : g.x + g.w ≤ o
      · have hg2 : g.x + g.w ≤ p := by omega
        simp only [hg, hg2, decide_true, if_true]; omega
      · simp only [hg, decide_false]
        simp only [Bool.false_eq_true, if_false]; omega

theorem foldl_hit : ∀ (fs : List Fl) (o : Int), fs.foldl hop o ≠ o → ∃ f ∈ fs, o < f.x + f.w ∧ f.x + f.w ≤ fs.foldl hop o
  | [], o, h => absurd rfl h
  | f :: r, o, h => by
    rw [List.foldl_cons] at h ⊢
    by_cases e : hop o f = o
    · rw [e] at h ⊢
      obtain ⟨g, hg, h1, h2⟩ := foldl_hit r o h
      exact ⟨g, List.mem_cons_of_mem _ hg, h1, h2⟩
    · have h1 := foldl_le r (hop o f)
      have h2 : hop o f = f.x + f.w ∧ o < f.x + f.w := by
        unfold hop at e ⊢
        split
        · rename_i hx; rw [if_pos hx] at e; omega
        · rename_i hx; rw [if_neg hx] at e; exact absurd rfl e
      exact ⟨f, by simp, h2.2, by omega⟩

theorem rounds_shut (fs : List Fl) (o : Int) : ∀ k, Shut fs (rounds fs k o) ∨ k ≤ taken fs (rounds fs k o)
  | 0 => .inr (Nat.zero_le _)
  | k + 1 => by
    rw [rounds, round1]
    by_cases e : fs.foldl hop (rounds fs k o) = rounds fs k o
    · left; rw [e]; exact foldl_fix e
    · rcases rounds_shut fs o k with h | h
      · exact absurd (foldl_shut h) e
      · right
        obtain ⟨f, hf, h1, h2⟩ := foldl_hit fs _ e
        have := taken_grow (foldl_le fs (rounds fs k o)) hf h1 h2
        omega

theorem behind_shut (fs : List Fl) (o : Int) : Shut fs (behind fs o) := by
  rcases rounds_shut fs o fs.length with h | h
  · exact h
  · have h1 : taken fs (rounds fs fs.length o) = fs.length := Nat.le_antisymm List.countP_le_length h
    unfold taken at h1
    rw [List.countP_eq_length] at h1
    intro f hf _
    have := h1 f hf
    simp only [decide_eq_true_eq] at this
    exact this
theorem behind_le (fs : List Fl) (o : Int) : o ≤ behind fs o := rounds_le fs _ o

theorem foldl_cov : ∀ (all fs : List Fl) (a o : Int), (∀ f ∈ fs, f ∈ all) → (∀ x, a ≤ x → x < o → Cov all x) → a ≤ o → ∀ x, a ≤ x → x < fs.foldl hop o → Cov all x
  | all, [], a, o, _, h, _, x, h1, h2 => h x h1 h2
  | all, f :: r, a, o, hs, h, hao, x, h1, h2 => by
    rw [List.foldl_cons] at h2
    refine foldl_cov all r a (hop o f) (fun g hg => hs g (List.mem_cons_of_mem _ hg)) ?_ (Int.le_trans hao (hop_le o f)) x h1 h2
    intro y h3 h4
    rcases Int.lt_or_le y o with h5 | h5
    · exact h y h3 h5
    · unfold hop at h4
      split at h4
      · exact ⟨f, hs f (by simp), by omega, by omega⟩
      · omega
theorem rounds_cov (fs : List Fl) (a : Int) : ∀ k x, a ≤ x → x < rounds fs k a → Cov fs x
  | 0, x, h1, h2 => by rw [rounds] at h2; omega
  | k + 1, x, h1, h2 => foldl_cov fs fs a (rounds fs k a) (fun _ h => h) (rounds_cov fs a k) (rounds_le fs k a) x h1 h2
theorem behind_cov (fs : List Fl) (a x : Int) (h1 : a ≤ x) (h2 : x < behind fs a) : Cov fs x := rounds_cov fs a _ x h1 h2

theorem foldl_top {n : Int} : ∀ (fs : List Fl) (o : Int), (∀ f ∈ fs, f.x + f.w ≤ n) → o ≤ n → fs.foldl hop o ≤ n
  | [], o, _, h => h
  | f :: r, o, hs, h => by
    rw [List.foldl_cons]
    refine foldl_top r _ (fun g hg => hs g (List.mem_cons_of_mem _ hg)) ?_
    have := hs f (by simp)
    unfold hop; split <;> omega
theorem rounds_top {n : Int} (fs : List Fl) (o : Int) (hs : ∀ f ∈ fs, f.x + f.w ≤ n) (h : o ≤ n) : ∀ k, rounds fs k o ≤ n
  | 0 => h
  | k + 1 => foldl_top fs _ hs (rounds_top fs o hs h k)
theorem behind_top {n : Int} (fs : List Fl) (o : Int) (hs : Fits n fs) (h : o ≤ n) : behind fs o ≤ n := rounds_top fs o (fun f hf => (hs f hf).2.2) h _

def nextF (at_ : Int) (o : Int) (f : Fl) : Int := if at_ ≤ f.x then min o f.x else o
def next (n : Int) (fs : List Fl) (at_ : Int) : Int := fs.foldl (nextF at_) n

theorem next_le : ∀ (fs : List Fl) (n a : Int), next n fs a ≤ n
  | [], n, a => Int.le_refl _
  | f :: r, n, a => by
    unfold next; rw [List.foldl_cons]
    refine Int.le_trans (next_le r _ a) ?_
    unfold nextF; split <;> omega
theorem next_ge : ∀ (fs : List Fl) (n a : Int), a ≤ n → a ≤ next n fs a
  | [], n, a, h => h
  | f :: r, n, a, h => by
    unfold next; rw [List.foldl_cons]
    refine next_ge r _ a ?_
    unfold nextF; split <;> omega
theorem next_low : ∀ (fs : List Fl) (n a : Int), ∀ f ∈ fs, a ≤ f.x → next n fs a ≤ f.x
  | [], n, a, f, hf, _ => by cases hf
  | g :: r, n, a, f, hf, h => by
    unfold next; rw [List.foldl_cons]
    rcases List.mem_cons.1 hf with rfl | hf
    · refine Int.le_trans (next_le r _ a) ?_
      unfold nextF; rw [if_pos h]; omega
    · exact next_low r _ a f hf h
theorem next_at : ∀ (fs : List Fl) (n a : Int), next n fs a ≠ n → ∃ f ∈ fs, f.x = next n fs a
  | [], n, a, h => absurd rfl h
  | g :: r, n, a, h => by
    unfold next at h ⊢; rw [List.foldl_cons] at h ⊢
    by_cases e : next (nextF a n g) r a = nextF a n g
    · have h1 : nextF a n g ≠ n := fun h' => h (by unfold next at e; rw [e]; exact h')
      have h2 : nextF a n g = g.x := by
        unfold nextF at h1 ⊢
        split
        · rename_i hx; rw [if_pos hx] at h1; omega
        · rename_i hx; rw [if_neg hx] at h1; exact absurd rfl h1
      unfold next at e
      exact ⟨g, by simp, by rw [e, h2]⟩
    · obtain ⟨f, hf, h1⟩ := next_at r _ a e
      exact ⟨f, List.mem_cons_of_mem _ hf, h1⟩

/-- what the reference's loop keeps at position lo -/
structure RefAt (n : Int) (fs : List Fl) (lo : Int) (zs : List (Int × Int)) : Prop where
  upto : Upto fs lo zs
  shut : Shut fs lo
  lo0 : 0 ≤ lo
  top : lo ≤ n

theorem RefAt.start {n : Int} {fs : List Fl} (hn : 0 ≤ n) (hs : Fits n fs) : RefAt n fs (behind fs 0) [] :=
  ⟨Upto.start.over (behind_le fs 0) (fun x h1 h2 => behind_cov fs 0 x h1 h2), behind_shut fs 0, behind_le fs 0, behind_top fs 0 hs hn⟩

theorem RefAt.free {n : Int} {fs : List Fl} {lo : Int} {zs : List (Int × Int)} (h : RefAt n fs lo zs) : ∀ x, lo ≤ x → x < next n fs lo → ¬ Cov fs x := by
  rintro x h1 h2 ⟨f, hf, h3, h4⟩
  rcases Int.lt_or_le lo f.x with h5 | h5
  · have := next_low fs n lo f hf (by omega); omega
  · have := h.shut f hf h5; omega

/-- a round that goes on -/
theorem RefAt.step {n : Int} {fs : List Fl} {lo : Int} {zs : List (Int × Int)} (h : RefAt n fs lo zs) (hs : Fits n fs) (hl : lo < n) (hne : next n fs lo ≠ n) :
    RefAt n fs (behind fs (next n fs lo)) (zs ++ [(lo, next n fs lo)]) ∧ lo < next n fs lo ∧ next n fs lo < behind fs (next n fs lo) := by
  obtain ⟨f, hf, hfx⟩ := next_at fs n lo hne
  obtain ⟨hf1, hf2, hf3⟩ := hs f hf
  have hge := next_ge fs n lo (by omega)
  have hle := next_le fs n lo
  have hlt : lo < next n fs lo := by
    rcases Int.lt_or_le lo (next n fs lo) with h1 | h1
    · exact h1
    · have := h.shut f hf (by omega); omega
  have hb := behind_le fs (next n fs lo)
  have hb2 : next n fs lo < behind fs (next n fs lo) := by
    have := behind_shut fs (next n fs lo) f hf (by omega); omega
  refine ⟨⟨h.upto.zone h.lo0 hlt hb2 h.free (fun x h1 h2 => behind_cov fs _ x h1 h2), behind_shut fs _, by have := h.lo0; omega, behind_top fs _ hs hle⟩, hlt, hb2⟩
/-- the last round -/
theorem RefAt.last {n : Int} {fs : List Fl} {lo : Int} {zs : List (Int × Int)} (h : RefAt n fs lo zs) (hl : lo < n) (he : next n fs lo = n) : Good n fs (zs ++ [(lo, n)]) :=
  h.upto.last h.lo0 hl (by have := h.free; rw [he] at this; exact this)
theorem RefAt.none {n : Int} {fs : List Fl} {lo : Int} {zs : List (Int × Int)} (h : RefAt n fs lo zs) (hl : ¬ lo < n) : Good n fs zs := by
  have e : lo = n := by have := h.top; omega
  have := h.upto
  rw [e] at this
  exact this.none

/-! ### A flaw more, between the ends of another one -/

theorem zones_same {n : Int} {fs gs : List Fl} (hn : 0 ≤ n) (h1 : Fits n fs) (h2 : Fits n gs) (hc : ∀ x, Cov fs x ↔ Cov gs x) : zones n fs = zones n gs :=
  (zones_good hn h1).unique (zones_good hn h2) hc

theorem cov_rev (fs : List Fl) (x : Int) : Cov fs.reverse x ↔ Cov fs x := by
  unfold Cov; simp
theorem cov_more {fs : List Fl} {f g : Fl} (hf : f ∈ fs) (h1 : f.x ≤ g.x) (h2 : g.x + g.w ≤ f.x + f.w) (x : Int) : Cov (fs.reverse ++ [g]) x ↔ Cov fs x := by
  constructor
  · rintro ⟨k, hk, h3, h4⟩
    rcases List.mem_append.1 hk with hk | hk
    · exact ⟨k, List.mem_reverse.1 hk, h3, h4⟩
    · rw [List.mem_singleton] at hk; subst hk; exact ⟨f, hf, by omega, by omega⟩
  · rintro ⟨k, hk, h3, h4⟩
    exact ⟨k, List.mem_append_left _ (List.mem_reverse.2 hk), h3, h4⟩

end Go.Proofs.YtphaigncbenmmaaGreatDoor
