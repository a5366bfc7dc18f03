/- Tables of routes (layer 7): First. -/
import Derived.Test.YtlmoifeinglaeaaDoorParse
namespace Go.Proofs.YtlmoifeinglaeaaDoor
open Go.RowKit

/-- The text of the table that a server begins with. -/
def firstS : ByteArray := ⟨(([71, 69, 84, 32, 47, 104, 101, 97, 108, 116, 104, 32, 104, 101, 97, 108, 116, 104, 10, 80, 79, 83, 84, 32, 47, 97, 100, 109, 105, 110, 47, 114, 111, 117, 116, 101, 115, 32, 114, 101, 108, 111, 97].append [100, 10, 80, 79, 83, 84, 32, 47, 97, 100, 109, 105, 110, 47, 115, 116, 111, 112, 32, 115, 104, 117, 116, 100, 111, 119, 110, 10, 71, 69, 84, 32, 47, 107, 118, 47, 58, 107, 101, 121, 32, 103, 101]).append ([116, 10, 80, 85, 84, 32, 47, 107, 118, 47, 58, 107, 101, 121, 32, 112, 117, 116, 10, 68, 69, 76, 69, 84, 69, 32, 47, 107, 118, 47, 58, 107, 101, 121, 32, 100, 101, 108, 101, 116, 101, 10, 71].append [69, 84, 32, 47, 108, 105, 115, 116, 47, 42, 112, 114, 101, 102, 105, 120, 32, 108, 105, 115, 116, 10, 71, 69, 84, 32, 47, 119, 97, 108, 107, 47, 58, 109, 111, 118, 101, 115, 32, 119, 97, 108, 107, 10])).toArray⟩
def firstL : List Rt := [
  ⟨[71, 69, 84], [47, 104, 101, 97, 108, 116, 104], [104, 101, 97, 108, 116, 104]⟩,
  ⟨[80, 79, 83, 84], [47, 97, 100, 109, 105, 110, 47, 114, 111, 117, 116, 101, 115], [114, 101, 108, 111, 97, 100]⟩,
  ⟨[80, 79, 83, 84], [47, 97, 100, 109, 105, 110, 47, 115, 116, 111, 112], [115, 104, 117, 116, 100, 111, 119, 110]⟩,
  ⟨[71, 69, 84], [47, 107, 118, 47, 58, 107, 101, 121], [103, 101, 116]⟩,
  ⟨[80, 85, 84], [47, 107, 118, 47, 58, 107, 101, 121], [112, 117, 116]⟩,
  ⟨[68, 69, 76, 69, 84, 69], [47, 107, 118, 47, 58, 107, 101, 121], [100, 101, 108, 101, 116, 101]⟩,
  ⟨[71, 69, 84], [47, 108, 105, 115, 116, 47, 42, 112, 114, 101, 102, 105, 120], [108, 105, 115, 116]⟩,
  ⟨[71, 69, 84], [47, 119, 97, 108, 107, 47, 58, 109, 111, 118, 101, 115], [119, 97, 108, 107]⟩]

theorem first_lines : linesR (wordsL 10 (bl firstS)) = some firstL := by decide +kernel
theorem first_check : checkL firstL = 0 := by decide +kernel
theorem first_parse : parseL (bl firstS) = (firstL, 0) := by
  unfold parseL
  rw [first_lines]
  simp only [first_check, if_pos]

theorem first_any (w : World) (hg : HG w) :
    Calls Tryd.prog 26 #[] w fun e w' => ∃ ao cap, e = .returned (.slice ao firstL.length cap) ∧ St w (slo 39 3 ao firstL.length cap (rtsC firstL)) w' := by
  have hp := parse_any firstS w hg (by decide +kernel)
  rw [first_parse] at hp
  unfold firstS at hp
  generalize firstL = l at *
  go_enter Tryd.func26, Tryd.ntmps26
  go_wp2_with (go_at_call 27; refine hp.mono ?_; rintro e w' ⟨ao, cap, rfl, hS⟩; have HS := Lib.hid hS; clear hS)
  go_ret
  exact ⟨ao, cap, rfl, HS.out⟩
end Go.Proofs.YtlmoifeinglaeaaDoor
