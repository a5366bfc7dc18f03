/- Signs of texts (layer 1): letter, mark, Token, Words. -/
import Derived.Test.YtlmoifeinglaeaaDoorTxt
import Derived.Test.YtlmoifeinglaeaaDoorRows
import Derived.Test.YtlmoifeinglaeaaDoorFr
import Derived.WalkSpells
import Derived.WalkLawsBesides
import Derived.Lib.Hide
import Derived.Deep.LoopGhost
namespace Go.Proofs.YtlmoifeinglaeaaDoor
open Go.RowKit

/-- A letter's sign, made small. -/
def small (c : UInt8) : Int := bits .or .u8 (c.toNat : Int) 32
def letB (c : UInt8) : Bool := decide (97 ≤ small c) && decide (small c ≤ 122)
def markB (c : UInt8) : Bool :=
  [33, 35, 36, 37, 38, 39, 42, 43, 45, 46, 94, 95, 124, 126, 96].contains c.toNat || letB c || (decide (48 ≤ c.toNat) && decide (c.toNat ≤ 57))

theorem ret_bool {a b : Bool} (h : a = b) : Ending.returned (.bool a) = .returned (.bool b) := by rw [h]

set_option maxHeartbeats 400000 in
theorem letter_any (c : UInt8) (w : World) :
    Calls Tryd.prog 68 #[.int .u8 (c.toNat : Nat)] w fun e w' => e = .returned (.bool (letB c)) ∧ w = w' := by
  by_cases h1 : 97 ≤ bits .or .u8 (c.toNat : Int) 32
  · by_cases h2 : bits .or .u8 (c.toNat : Int) 32 ≤ 122
    · go_enter Tryd.func68, Tryd.ntmps68
      go_wp2
      go_ret
      exact ⟨ret_bool (by unfold letB small; rw [decide_eq_true h1, decide_eq_true h2]; rfl), rfl⟩
    · go_enter Tryd.func68, Tryd.ntmps68
      go_wp2
      go_ret
      exact ⟨ret_bool (by unfold letB small; rw [decide_eq_true h1, decide_eq_false (by omega)]; rfl), rfl⟩
  · have h1' : decide (97 ≤ bits .or .u8 (c.toNat : Int) 32) = false := by simpa using h1
    go_enter Tryd.func68, Tryd.ntmps68
    go_wp2
    go_ret
    exact ⟨ret_bool (by unfold letB small; rw [decide_eq_false (by omega)]; rfl), rfl⟩

theorem byte_lt (c : UInt8) : c.toNat < 256 := c.toNat_lt

set_option maxHeartbeats 2000000 in
theorem mark_any (c : UInt8) (w : World) :
    Calls Tryd.prog 53 #[.int .u8 (c.toNat : Nat)] w fun e w' => e = .returned (.bool (markB c)) ∧ w = w' := by
  have hlet := letter_any c w
  by_cases hm : [33, 35, 36, 37, 38, 39, 42, 43, 45, 46, 94, 95, 124, 126, 96].contains c.toNat = true
  · have hb : markB c = true := by unfold markB; rw [hm]; rfl
    have HB := Lib.hid hb
    simp only [List.contains_eq_mem, List.mem_cons, List.not_mem_nil, or_false, decide_eq_true_eq] at hm
    clear hb
    generalize c.toNat = n at *
    rcases hm with rfl | rfl | rfl | rfl | rfl | rfl | rfl | rfl | rfl | rfl | rfl | rfl | rfl | rfl | rfl
    all_goals
      go_enter Tryd.func53, Tryd.ntmps53
      go_wp2_with fail
      go_ret
      exact ⟨ret_bool HB.out.symm, rfl⟩
  · have hm' : [33, 35, 36, 37, 38, 39, 42, 43, 45, 46, 94, 95, 124, 126, 96].contains c.toNat = false := by simpa using hm
    have hb : markB c = (letB c || (decide (48 ≤ c.toNat) && decide (c.toNat ≤ 57))) := by unfold markB; rw [hm']; simp
    have HB := Lib.hid hb
    simp only [List.contains_eq_mem, List.mem_cons, List.not_mem_nil, or_false, decide_eq_true_eq, not_or] at hm
    clear hb hm'
    generalize c.toNat = n at *
    obtain ⟨m1, m2, m3, m4, m5, m6, m7, m8, m9, m10, m11, m12, m13, m14, m15⟩ := hm
    by_cases d1 : 48 ≤ n
    · by_cases d2 : n ≤ 57
      · cases hl : letB c
        all_goals
          rw [hl] at hlet HB
          go_enter Tryd.func53, Tryd.ntmps53
          go_wp2_with (go_at_call 68; refine hlet.mono ?_; rintro e w' ⟨rfl, rfl⟩)
          go_ret
          exact ⟨ret_bool (by rw [HB.out]; first | (simp [d1, d2]; done) | (simp [d1, d2]; omega)), rfl⟩
      · have d2' : decide (n ≤ 57) = false := by simpa using d2
        cases hl : letB c
        all_goals
          rw [hl] at hlet HB
          go_enter Tryd.func53, Tryd.ntmps53
          go_wp2_with (go_at_call 68; refine hlet.mono ?_; rintro e w' ⟨rfl, rfl⟩)
          go_ret
          exact ⟨ret_bool (by rw [HB.out]; first | (simp [d1, d2]; done) | (simp [d1, d2]; omega)), rfl⟩
    · have d1' : decide (48 ≤ n) = false := by simpa using d1
      cases hl : letB c
      all_goals
        rw [hl] at hlet HB
        go_enter Tryd.func53, Tryd.ntmps53
        go_wp2_with (go_at_call 68; refine hlet.mono ?_; rintro e w' ⟨rfl, rfl⟩)
        go_ret
        exact ⟨ret_bool (by rw [HB.out]; first | (simp [d1]; done) | (simp [d1]; omega)), rfl⟩

/-- Is it one or more signs that may stand in a name? -/
def tokB (s : ByteArray) : Bool := !(bl s).isEmpty && (bl s).all markB

theorem tokB_false {s : ByteArray} {k : Nat} (h : k < s.size) (hm : markB s[k] = false) : tokB s = false := by
  have hmem : s[k] ∈ bl s := List.mem_of_getElem? (bl_get s k h)
  cases hall : (bl s).all markB with
  | false => simp [tokB, hall]
  | true =>
    have := List.all_eq_true.1 hall _ hmem
    rw [hm] at this
    cases this

set_option maxHeartbeats 1000000 in
theorem token_any (s : ByteArray) (w : World) (hs : s.size ≤ 9223372036854775807) :
    Calls Tryd.prog 37 #[.string s] w fun e w' => e = .returned (.bool (tokB s)) ∧ w = w' := by
  go_enter Tryd.func37, Tryd.ntmps37
  go_wp2_with fail
  go_loop [6] (fun i => ∃ k : Nat, k ≤ s.size ∧ i = .int .i64 k ∧ Hid (∀ j (h : j < s.size), j < k → markB s[j] = true)) (fun i => s.size - (intOf i).toNat)
  case atStart => exact ⟨0, Nat.zero_le _, rfl, fun j _ hj => by omega⟩
  case round =>
    obtain ⟨k, hk, rfl, H⟩ := hrel
    by_cases hlt : k < s.size
    · have hmk := mark_any s[k] w
      cases hb : markB s[k]
      · rw [hb] at hmk
        have HB := Lib.hid hb
        clear hb
        go_wp2_with (go_at_call 53; refine hmk.mono ?_; rintro e w' ⟨rfl, rfl⟩)
        go_ret
        exact ⟨ret_bool (tokB_false hlt HB.out).symm, rfl⟩
      · rw [hb] at hmk
        have HB := Lib.hid hb
        clear hb
        go_wp2_with (go_at_call 53; refine hmk.mono ?_; rintro e w' ⟨rfl, rfl⟩)
        go_round
        case rel => exact ⟨k + 1, by omega, by go_num, fun j h hj => by
          by_cases e : j = k
          · subst e; exact HB.out
          · exact H.out j h (by omega)⟩
        case measure => simp [intOf]; omega
    · have hall : (bl s).all markB = true := by
        rw [List.all_eq_true]
        intro c hc
        obtain ⟨j, hj, e⟩ := List.mem_iff_getElem.1 hc
        have hj' : j < s.size := by rw [← len_bl]; exact hj
        have := bl_get s j hj'
        rw [List.getElem?_eq_getElem hj, e] at this
        cases this
        exact H.out j hj' (by omega)
      have hfin : tokB s = !s.toList.isEmpty := by rw [tokB, hall, toList_bl]; simp
      have Hfin := Lib.hid hfin
      clear hfin hall
      go_wp2_with fail
      go_ret
      exact ⟨ret_bool Hfin.out.symm, rfl⟩

end Go.Proofs.YtlmoifeinglaeaaDoor
