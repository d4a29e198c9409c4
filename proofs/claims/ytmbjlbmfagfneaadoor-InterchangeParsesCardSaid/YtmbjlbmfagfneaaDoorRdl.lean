/- readLine of the program. -/
import Derived.Test.YtmbjlbmfagfneaaDoorRdp
namespace Go.Proofs.YtmbjlbmfagfneaaDoor
open Go Go.RowKit

theorem cuts_len_le (d : UInt8) : ∀ (s : B), ∀ w ∈ cuts d s, w.length ≤ s.length
  | [], w, h => by rw [cuts_nil, List.mem_singleton] at h; subst h; simp
  | c :: t, w, h => by
    by_cases hc : c = d
    · subst hc
      rw [cuts_eq, List.mem_cons] at h
      rcases h with rfl | h
      · simp
      · have := cuts_len_le c t w h; simp; omega
    · rw [cuts_ne hc, List.mem_cons] at h
      obtain ⟨a, r, e⟩ := cuts_cons d t
      rw [e] at h
      rcases h with rfl | h
      · have := cuts_len_le d t a (by rw [e]; simp)
        simp; omega
      · have := cuts_len_le d t w (by rw [e]; exact List.mem_cons_of_mem _ h)
        simp; omega

theorem RdEnd.pre {B p : Nat} {r : Except Int Mk} {w w1 w' : World} {e : Ending} (hX : Ext w w1) (hB : B ≤ w.heap.size) (h : RdEnd B p r w1 e w') : RdEnd B p r w e w' :=
  ⟨(hX.mono hB).trans h.1, h.2⟩
theorem RdEnd.shape {B p : Nat} {r : Except Int Mk} {w w' : World} {e : Ending} (h : RdEnd B p r w e w') : ∃ n, e = .returned (.int .i64 n) := by
  obtain ⟨_, h⟩ := h
  cases r with
  | error n => exact ⟨n, h⟩
  | ok m => exact ⟨0, h.1⟩

set_option maxHeartbeats 1000000 in
theorem c_readLine (B : Nat) (m : Mk) (p line : Nat) (s : ByteArray) (w : World) (hB : B ≤ w.heap.size) (hp : MkAt B p w m) (ht : Tab w) (hs : s.size ≤ 30000) :
    Calls Tryd.prog 27 #[.pointer (some ⟨p, 0, none⟩), .int .i64 line, .string s] w (RdEnd B p (rdLine m line (bs s)) w) := by
  replace hp := Lib.hid hp
  go_enter Tryd.func27, Tryd.ntmps27
  go_wp2_with fail
  refine (l_split s _ ht (by omega)).mono ?_
  rintro e w1 ⟨v, ws, rfl, hrd, hws, hX⟩
  obtain ⟨x, r, rfl⟩ : ∃ x r, ws = x :: r := by
    cases ws with
    | nil => exact absurd hws.symm (cuts_ne_nil _ _)
    | cons x r => exact ⟨x, r, rfl⟩
  have hr : rdLine m line (bs s) = if line = 1 then rdHead m (bs x) (r.map bs) else if line = 2 then rdSizes m (bs x) (r.map bs) else rdPlace m (bs x) (r.map bs) := by
    unfold rdLine
    rw [← hws]; rfl
  have hsz : ∀ y ∈ r, y.size ≤ 30000 := fun y hy => by
    have := cuts_len_le 32 (bs s) (bs y) (by rw [← hws]; exact List.mem_map.2 ⟨y, List.mem_cons_of_mem _ hy, rfl⟩)
    rw [bs_len, bs_len] at this
    omega
  have hln : r.length ≤ 100000 := by
    have h1 := cuts_length 32 (bs s)
    rw [← hws, List.length_map, List.length_cons] at h1
    have h2 : (bs s).count 32 ≤ (bs s).length := List.count_le_length
    rw [bs_len] at h2
    omega
  have hB1 := Lib.hid (Nat.le_trans hB hX.size)
  have hp1 := Lib.hid (hp.out.ext hX)
  replace hrd := Lib.hid hrd
  replace hws := Lib.hid hws
  replace hX := Lib.hid hX
  replace hsz := Lib.hid hsz
  replace hr := Lib.hid hr
  by_cases h1 : line = 1
  · subst h1
    go_wp2_with fail
    refine (c_readHead B m p v x r _ hB1.out hp1.out hrd.out hsz.out hln).mono ?_
    intro e w2 he
    obtain ⟨n, rfl⟩ := he.shape
    replace he := Lib.hid he
    go_wp2
    go_ret
    have k := he.out.pre hX.out hB
    rw [hr.out, if_pos (by trivial)]
    exact k
  · by_cases h2 : line = 2
    · subst h2
      go_wp2_with fail
      refine (c_readSizes B m p v x r _ hB1.out hp1.out hrd.out hsz.out hln).mono ?_
      intro e w2 he
      obtain ⟨n, rfl⟩ := he.shape
      replace he := Lib.hid he
      go_wp2
      go_ret
      have k := he.out.pre hX.out hB
      rw [hr.out, if_neg (by decide), if_pos (by trivial)]
      exact k
    · go_wp2_with fail
      refine (c_readPlace B m p v x r _ hB1.out hp1.out hrd.out hsz.out hln).mono ?_
      intro e w2 he
      obtain ⟨n, rfl⟩ := he.shape
      replace he := Lib.hid he
      go_wp2
      go_ret
      have k := he.out.pre hX.out hB
      rw [hr.out, if_neg h1, if_neg h2]
      exact k

end Go.Proofs.YtmbjlbmfagfneaaDoor
