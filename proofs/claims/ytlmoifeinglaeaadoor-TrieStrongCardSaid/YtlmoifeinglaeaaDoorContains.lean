/- slices.Contains at texts. -/
import Derived.Test.YtlmoifeinglaeaaDoorPattern
namespace Go.Proofs.YtlmoifeinglaeaaDoor
open Go.RowKit

theorem same_text (a b : List UInt8) : ((ba a).toList == (ba b).toList) = decide (a = b) := by
  rw [toList_bl, toList_bl, bl_ba, bl_ba]
  by_cases h : a = b
  · simp [h]
  · simp [h]

set_option maxRecDepth 100000 in
set_option maxHeartbeats 1000000 in
theorem index_yes (ao : Option Addr) (cap : Nat) (l : List (List UInt8)) (x : List UInt8) (w : World) (hl : Strs w ao l) (hn : l.length ≤ 1000000) (hx : x ∈ l) :
    Calls Tryd.prog 50 #[.slice ao l.length cap, .string (ba x)] w fun e w' => ∃ k : Nat, e = .returned (.int .i64 k) ∧ w = w' := by
  have HL := Lib.hid hl
  have HX := Lib.hid hx
  clear hl hx
  go_enter Tryd.func50, Tryd.ntmps50
  go_wp2_with fail
  go_loop [8] (fun i => ∃ k : Nat, k ≤ l.length ∧ i = .int .i64 k ∧ ∀ j (h : j < l.length), j < k → l[j] ≠ x) (fun i => l.length - (intOf i).toNat)
  case atStart => exact ⟨0, Nat.zero_le _, rfl, fun j _ h => absurd h (Nat.not_lt_zero _)⟩
  case round =>
    obtain ⟨k, hk, rfl, hno⟩ := hrel
    have HNO := Lib.hid hno
    clear hno
    by_cases hlt : k < l.length
    · obtain ⟨g, off, rfl, hc⟩ := HL.out.get hlt
      by_cases he : x = l[k]
      · have t1 : ((ba x).toList == (ba l[k]).toList) = true := by rw [same_text]; exact decide_eq_true he
        clear he
        go_wp2_with fail
        go_ret
        exact ⟨⟨k, rfl⟩, rfl⟩
      · have t1 : ((ba x).toList == (ba l[k]).toList) = false := by rw [same_text]; exact decide_eq_false he
        have HE := Lib.hid he
        clear he
        go_wp2_with fail
        go_round
        case rel => exact ⟨k + 1, by omega, by go_num, fun j hj hjk => by
          by_cases e : j = k
          · subst e; exact fun h => HE.out h.symm
          · exact HNO.out j hj (by omega)⟩
        case measure => simp [intOf]; omega
    · exfalso
      obtain ⟨j, hj, e⟩ := List.mem_iff_getElem.1 HX.out
      exact HNO.out j hj (by omega) e

set_option maxRecDepth 100000 in
set_option maxHeartbeats 1000000 in
theorem index_no (ao : Option Addr) (cap : Nat) (l : List (List UInt8)) (x : List UInt8) (w : World) (hl : Strs w ao l) (hn : l.length ≤ 1000000) (hx : x ∉ l) :
    Calls Tryd.prog 50 #[.slice ao l.length cap, .string (ba x)] w fun e w' => e = .returned (.int .i64 (-1)) ∧ w = w' := by
  have HL := Lib.hid hl
  have HX := Lib.hid hx
  clear hl hx
  go_enter Tryd.func50, Tryd.ntmps50
  go_wp2_with fail
  go_loop [8] (fun i => ∃ k : Nat, k ≤ l.length ∧ i = .int .i64 k) (fun i => l.length - (intOf i).toNat)
  case atStart => exact ⟨0, Nat.zero_le _, rfl⟩
  case round =>
    obtain ⟨k, hk, rfl⟩ := hrel
    by_cases hlt : k < l.length
    · obtain ⟨g, off, rfl, hc⟩ := HL.out.get hlt
      have t1 : ((ba x).toList == (ba l[k]).toList) = false := by
        rw [same_text]
        exact decide_eq_false fun h => HX.out (by rw [h]; exact List.getElem_mem hlt)
      go_wp2_with fail
      go_round
      case rel => exact ⟨k + 1, by omega, by go_num⟩
      case measure => simp [intOf]; omega
    · go_wp2_with fail
      go_ret
      exact ⟨rfl, rfl⟩

set_option maxRecDepth 100000 in
theorem contains_any (ao : Option Addr) (cap : Nat) (l : List (List UInt8)) (x : List UInt8) (w : World) (hl : Strs w ao l) (hn : l.length ≤ 1000000) :
    Calls Tryd.prog 35 #[.slice ao l.length cap, .string (ba x)] w fun e w' => e = .returned (.bool (decide (x ∈ l))) ∧ w = w' := by
  by_cases hx : x ∈ l
  · have hi := index_yes ao cap l x w hl hn hx
    have HX := Lib.hid (decide_eq_true hx)
    clear hl hx
    go_enter Tryd.func35, Tryd.ntmps35
    go_wp2_with (go_at_call 50; refine hi.mono ?_; rintro e w' ⟨k, rfl, rfl⟩; have hk0 : (0 : Int) ≤ (k : Int) := Int.natCast_nonneg k)
    go_ret
    exact ⟨by rw [HX.out]; rfl, rfl⟩
  · have hi := index_no ao cap l x w hl hn hx
    have HX := Lib.hid (decide_eq_false hx)
    clear hl hx
    go_enter Tryd.func35, Tryd.ntmps35
    go_wp2_with (go_at_call 50; refine hi.mono ?_; rintro e w' ⟨rfl, rfl⟩)
    go_ret
    exact ⟨by rw [HX.out]; rfl, rfl⟩
end Go.Proofs.YtlmoifeinglaeaaDoor
