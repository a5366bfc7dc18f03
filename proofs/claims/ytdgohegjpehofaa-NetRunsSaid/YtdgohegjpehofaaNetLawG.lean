/- NetRuns: a list that is too long, and one that holds nothing. -/
import Derived.Test.YtdgohegjpehofaaNetLawF
namespace Go.Proofs.Ytdgohegjpehofaa
open Go.RowKit

set_option maxRecDepth 100000 in
set_option maxHeartbeats 2000000 in
theorem runs_long (ao : Option Addr) (len cap : Nat) (w : World) (hl : 150 < len) (hm : len ≤ 9223372036854775807) :
    Calls Try.prog 3 #[.slice ao len cap] w fun e w' => e = .returned (.bool true) ∧ St w 1 w' := by
  go_enter Try.func3, Try.ntmps3
  go_wp2_with fail
  refine (fit_any _).mono ?_
  rintro e w1 ⟨rfl, hS⟩
  have H0 := Lib.hid hS
  clear hS
  go_wp2_with fail
  go_ret
  exact ⟨rfl, H0.out⟩
end Go.Proofs.Ytdgohegjpehofaa
