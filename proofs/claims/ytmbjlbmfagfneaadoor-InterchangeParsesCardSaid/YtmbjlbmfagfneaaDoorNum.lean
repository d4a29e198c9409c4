/- What the library's variables hold (Tab), the library's contracts in this seat's words, and joined. -/
import Derived.Test.YtmbjlbmfagfneaaDoorShelf
import Derived.Test.YtmbjlbmfagfneaaDoorBld
import Derived.Test.YtmbjlbmfagfneaaDoorStr
import Derived.Test.YtmbjlbmfagfneaaDoorLeaf
import Derived.Lib.AppendIntMem
import Derived.Lib.AtoiErrMem
namespace Go.Proofs.YtmbjlbmfagfneaaDoor
open Go Go.RowKit

/-- the library's variables that are read: the table of powers of ten, and some number in MaxLen -/
def Tab (w : World) : Prop := Lib.TabIs Tryd.prog w "internal/strconv.uint64pow10" .u64 Lib.pow10Tab ∧ ∃ m, w.cell? ⟨0, 0, none⟩ = some (.int .i64 m)
theorem Tab.ext {w w' : World} (h : Tab w) (he : Ext w w') : Tab w' := by
  obtain ⟨h1, m, h2⟩ := h
  exact ⟨Lib.tabBelow_of_tabIs h1 w' he, m, he.cell h2⟩

theorem ext_grow (w : World) (k : Nat) (os : Array Obj) : Ext w (Sort.grow (w.drewN k) os) :=
  ⟨rfl, rfl, rfl, by simp [Sort.grow, World.drewN], fun k hk => by simp [Sort.grow, World.drewN, Array.getElem?_append, hk]⟩

theorem l_itoa (n : Int) (h0 : -9223372036854775808 ≤ n) (h1 : n ≤ 9223372036854775807) (w : World) (ht : Tab w) :
    Calls Tryd.prog 30 #[.int .i64 n] w fun e w' => e = .returned (.string (ofB (Lib.itoa n))) ∧ Ext w w' := by
  refine (Tryd.strconv_Itoa n h0 h1 w ht.1).mono ?_
  rintro e w' ⟨rfl, k, os, rfl⟩
  exact ⟨rfl, ext_grow _ _ _⟩

theorem l_atoi (s : ByteArray) (hs : s.size ≤ 19) (v : Int) (h : Lib.atoiAll (bs s) = .ok v) (w : World) :
    Calls Tryd.prog 68 #[.string s] w fun e w' => e = .returned (.tuple #[.int .i64 v, .nilIface]) ∧ Ext w w' := by
  refine (Tryd.strconv_Atoi_ok s (by omega) v h w).mono ?_
  rintro e w' ⟨rfl, rfl | ⟨t, rfl⟩⟩
  · exact ⟨rfl, Ext.refl _⟩
  · exact ⟨rfl, Lib.bytesWorld_below _ _ _⟩

theorem rd_split (s : ByteArray) (w : World) (t : TypeId) (hs : s.size < 4294967281) : ∃ ws : List ByteArray, ws.map bs = cuts 32 (bs s) ∧
    RdS (w.alloc (.cells ((Lib.splitB ⟨#[32]⟩ 0 (Lib.countB s ⟨#[32]⟩) s).map Value.string).toArray t)) (.slice (some ⟨w.heap.size, 0, none⟩) (Lib.countB s ⟨#[32]⟩ + 1) (Lib.countB s ⟨#[32]⟩ + 1)) ws := by
  have hl := Lib.splitB_all ⟨#[32]⟩ (by decide) 0 _ s rfl
  have hc := Lib.countB_le ⟨#[32]⟩ (by decide) _ s (Nat.le_refl _)
  refine ⟨Lib.splitB ⟨#[32]⟩ 0 (Lib.countB s ⟨#[32]⟩) s, ?_, some ⟨w.heap.size, 0, none⟩, Lib.countB s ⟨#[32]⟩ + 1, by rw [hl], by omega, by unfold maxLen; omega, fun j hj => ⟨w.heap.size, 0, rfl, ?_⟩⟩
  · have := Lib.splitB_data ⟨#[32]⟩ 0 (Lib.countB s ⟨#[32]⟩) s
    rw [← split_eq]
    exact this
  · rw [(Blk.new w t _).cell, Nat.zero_add]
    simp [hj]

theorem l_split (s : ByteArray) (w : World) (ht : Tab w) (hs : s.size < 4294967281) :
    Calls Tryd.prog 33 #[.string s, .string ⟨#[32]⟩] w fun e w' => ∃ v ws, e = .returned v ∧ RdS w' v ws ∧ ws.map bs = cuts 32 (bs s) ∧ Ext w w' := by
  obtain ⟨_, m, hm⟩ := ht
  refine (Tryd.strings_Split s ⟨#[32]⟩ m w hs hm (by decide)).mono ?_
  rintro e w' ⟨rfl, rfl⟩
  obtain ⟨ws, h1, h2⟩ := rd_split s w 9 hs
  exact ⟨_, ws, rfl, h2, h1, (Ext.refl w).alloc _⟩

/-- a text that is followed by numbers -/
def joinL (t : B) (l : List Int) : B := t ++ l.flatMap fun n => 32 :: Lib.itoa n
theorem joinL_snoc (t : B) (l : List Int) (k : Nat) (h : k < l.length) : joinL t (l.take (k + 1)) = joinL t (l.take k) ++ (32 :: Lib.itoa l[k]) := by
  unfold joinL
  rw [take_snoc l k h, List.flatMap_append]
  simp

theorem joinL_len (t : B) : ∀ (l : List Int), (∀ n ∈ l, -1048576 ≤ n ∧ n ≤ 1048576) → (joinL t l).length ≤ t.length + l.length * 9 := by
  intro l h
  have : (l.flatMap fun n => 32 :: Lib.itoa n).length ≤ l.length * 9 := by
    induction l with
    | nil => simp
    | cons n l ih =>
      have h1 := ih fun x hx => h x (List.mem_cons_of_mem _ hx)
      have h2 := h n (by simp)
      have h3 := itoa_len h2.1 h2.2
      rw [List.flatMap_cons, List.length_append, List.length_cons, List.length_cons, Nat.add_mul]
      omega
  unfold joinL
  rw [List.length_append]; omega

theorem ofB_app (a b : B) : ofB a ++ ofB b = ofB (a ++ b) := bs_inj (by simp [bs, ofB])
theorem ofB_size (a : B) : (ofB a).size = a.length := rfl
theorem join_step (t : B) (l : List Int) (k : Nat) (h : k < l.length) : ofB (joinL t (l.take k)) ++ (⟨#[32]⟩ ++ ofB (Lib.itoa l[k])) = ofB (joinL t (l.take (k + 1))) := by
  rw [joinL_snoc t l k h, show (⟨#[32]⟩ : ByteArray) = ofB [32] from rfl, ofB_app, ofB_app]; rfl

theorem joinL_nil (t : B) : joinL t [] = t := by simp [joinL]

set_option maxHeartbeats 1000000 in
theorem c_joined (t : ByteArray) (v : Value) (l : List Int) (w : World) (h : RdI w v l) (hr : ∀ n ∈ l, -1048576 ≤ n ∧ n ≤ 1048576) (ht : Tab w) (hts : t.size ≤ 1000) (hl : l.length ≤ 100) :
    Calls Tryd.prog 21 #[.string t, v] w fun e w' => e = .returned (.string (ofB (joinL (bs t) l))) ∧ Ext w w' := by
  obtain ⟨A, cap, rfl, hcap, hmax, hc⟩ := h
  unfold maxLen at hmax
  go_enter Tryd.func21, Tryd.ntmps21
  go_wp2
  go_loopw [0, 9] (fun x i wr => ∃ k : Nat, k ≤ l.length ∧ i = .int .i64 k ∧ x = .string (ofB (joinL (bs t) (l.take k))) ∧ Ext w wr) (fun _ i _ => l.length - (intOf i).toNat)
  case atStart => exact ⟨0, Nat.zero_le _, rfl, by rw [List.take_zero, joinL_nil, ofB_bs], Ext.refl _⟩
  case round =>
    obtain ⟨k, hk, rfl, rfl, hext⟩ := hrel
    by_cases hlt : k < l.length
    · obtain ⟨b, o, rfl, hcell⟩ := hc k hlt
      have hcell := hext.cell hcell
      have hrk := hr _ (List.getElem_mem hlt)
      replace hext := Lib.hid hext
      have z1 : ¬ 9223372036854775807 < 1 + (ofB (Lib.itoa l[k])).size := by
        have := itoa_len hrk.1 hrk.2
        rw [ofB_size]; omega
      have z2 : ¬ 9223372036854775807 < (ofB (joinL (bs t) (l.take k))).size + (1 + (ofB (Lib.itoa l[k])).size) := by
        have h1 := itoa_len hrk.1 hrk.2
        have h2 := joinL_len (bs t) (l.take k) fun n hn => hr n (List.mem_of_mem_take hn)
        rw [bs_len, List.length_take] at h2
        rw [ofB_size, ofB_size]
        have : min k l.length * 9 ≤ 900 := by omega
        omega
      have hj := Lib.hid (join_step (bs t) l k hlt)
      clear hc hr
      go_wp2_with fail
      refine (l_itoa _ (by omega) (by omega) _ (ht.ext hext.out)).mono ?_
      rintro e w1 ⟨rfl, hx1⟩
      replace hx1 := Lib.hid hx1
      go_wp2
      go_round
      case rel => exact ⟨k + 1, by omega, by go_num, by rw [hj.out], hext.out.trans hx1.out⟩
      case measure => simp [intOf]; omega
    · go_wp2
      go_ret
      exact ⟨by rw [List.take_of_length_le (by omega)]; rfl, hext⟩

end Go.Proofs.YtmbjlbmfagfneaaDoor
