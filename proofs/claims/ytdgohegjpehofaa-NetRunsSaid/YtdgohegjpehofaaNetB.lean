/- The network's methods that only look: Ready, Came, Gone, Closed, Written, Len, Dials. -/
import Derived.Test.YtdgohegjpehofaaNetA
namespace Go.Proofs.Ytdgohegjpehofaa
open Go.RowKit

section
variable {w0 w : World} {R : SP} {a : Nat} {s : Ns}

set_option maxHeartbeats 400000 in
theorem len_any (h : St w0 (net a s * R) w) :
    Calls Try.prog 13 #[.pointer (some ⟨a, 0, none⟩)] w fun e w' => e = .returned (.int .i64 s.conns.length) ∧ w = w' := by
  have h0 := h.net_head.1
  clear h
  go_enter Try.func13, Try.ntmps13
  go_wp2
  go_ret
  exact ⟨rfl, rfl⟩

set_option maxHeartbeats 400000 in
theorem dials_any (h : St w0 (net a s * R) w) :
    Calls Try.prog 14 #[.pointer (some ⟨a, 0, none⟩)] w fun e w' => e = .returned (.int .i64 s.dials.length) ∧ w = w' := by
  have h0 := h.net_head.2
  clear h
  go_enter Try.func14, Try.ntmps14
  go_wp2
  go_ret
  exact ⟨rfl, rfl⟩

def readyB : Option Cn → Bool
  | none => false
  | some c => !c.inq.isEmpty || c.shut || c.reset
def cameI : Option Cn → Int
  | none => 0
  | some c => c.came
def goneB : Option Cn → Bool
  | none => false
  | some c => c.reset
def closedB : Option Cn → Bool
  | none => false
  | some c => c.closed
def outS : Option Cn → ByteArray
  | none => ByteArray.empty
  | some c => c.out

set_option maxHeartbeats 1000000 in
theorem came_any (h : St w0 (net a s * R) w) (i : Int) :
    Calls Try.prog 19 #[.pointer (some ⟨a, 0, none⟩), .int .i64 i] w fun e w' => e = .returned (.int .i64 (cameI (s.at? i))) ∧ w = w' := by
  cases hc : s.at? i with
  | none =>
    have hat := at_none h i (at?_none hc)
    clear hc h
    go_enter Try.func19, Try.ntmps19
    go_wp2_with (go_at_call 20; refine hat.mono ?_; rintro e w' ⟨rfl, rfl⟩)
    go_ret
    exact ⟨rfl, rfl⟩
  | some c =>
    obtain ⟨k, rfl, hk, rfl⟩ := at?_some hc
    have hat := at_some h k hk
    have hcc := (h.eq (by rw [net_get hk, SP.mul_assoc])).conn_cells
    obtain ⟨-, h1, -⟩ := hcc
    generalize s.conns[k] = c at *
    unfold ptr at hat
    clear hc h
    go_enter Try.func19, Try.ntmps19
    go_wp2_with (go_at_call 20; refine hat.mono ?_; rintro e w' ⟨rfl, rfl⟩)
    go_ret
    exact ⟨rfl, rfl⟩
set_option maxHeartbeats 1000000 in
theorem ready_any (h : St w0 (net a s * R) w) (i : Int) :
    Calls Try.prog 16 #[.pointer (some ⟨a, 0, none⟩), .int .i64 i] w fun e w' => e = .returned (.bool (readyB (s.at? i))) ∧ w = w' := by
  cases hc : s.at? i with
  | none =>
    have hat := at_none h i (at?_none hc)
    clear hc h
    go_enter Try.func16, Try.ntmps16
    go_wp2_with (go_at_call 20; refine hat.mono ?_; rintro e w' ⟨rfl, rfl⟩)
    go_ret
    exact ⟨rfl, rfl⟩
  | some c =>
    obtain ⟨k, rfl, hk, rfl⟩ := at?_some hc
    have hat := at_some h k hk
    have hcc := (h.eq (by rw [net_get hk, SP.mul_assoc])).conn_cells
    obtain ⟨h0, -, h2, h3, -⟩ := hcc
    generalize s.conns[k] = c at *
    unfold ptr at hat
    clear hc h
    obtain ⟨cb, ao, cap, inq, came, shut, reset, taken, closed, out⟩ := c
    simp only at *
    cases inq <;> cases shut <;> cases reset
    all_goals
      simp only [List.length_nil, List.length_cons] at h0
      go_enter Try.func16, Try.ntmps16
      go_wp2_with (go_at_call 20; refine hat.mono ?_; rintro e w' ⟨rfl, rfl⟩)
      go_ret
      exact ⟨rfl, rfl⟩

set_option maxHeartbeats 1000000 in
theorem gone_any (h : St w0 (net a s * R) w) (i : Int) :
    Calls Try.prog 17 #[.pointer (some ⟨a, 0, none⟩), .int .i64 i] w fun e w' => e = .returned (.bool (goneB (s.at? i))) ∧ w = w' := by
  cases hc : s.at? i with
  | none =>
    have hat := at_none h i (at?_none hc)
    clear hc h
    go_enter Try.func17, Try.ntmps17
    go_wp2_with (go_at_call 20; refine hat.mono ?_; rintro e w' ⟨rfl, rfl⟩)
    go_ret
    exact ⟨rfl, rfl⟩
  | some c =>
    obtain ⟨k, rfl, hk, rfl⟩ := at?_some hc
    have hat := at_some h k hk
    have hcc := (h.eq (by rw [net_get hk, SP.mul_assoc])).conn_cells
    obtain ⟨-, -, -, h3, -⟩ := hcc
    generalize s.conns[k] = c at *
    unfold ptr at hat
    clear hc h
    obtain ⟨cb, ao, cap, inq, came, shut, reset, taken, closed, out⟩ := c
    simp only at *
    cases reset
    all_goals
      go_enter Try.func17, Try.ntmps17
      go_wp2_with (go_at_call 20; refine hat.mono ?_; rintro e w' ⟨rfl, rfl⟩)
      go_ret
      exact ⟨rfl, rfl⟩

set_option maxHeartbeats 1000000 in
theorem closed_any (h : St w0 (net a s * R) w) (i : Int) :
    Calls Try.prog 18 #[.pointer (some ⟨a, 0, none⟩), .int .i64 i] w fun e w' => e = .returned (.bool (closedB (s.at? i))) ∧ w = w' := by
  cases hc : s.at? i with
  | none =>
    have hat := at_none h i (at?_none hc)
    clear hc h
    go_enter Try.func18, Try.ntmps18
    go_wp2_with (go_at_call 20; refine hat.mono ?_; rintro e w' ⟨rfl, rfl⟩)
    go_ret
    exact ⟨rfl, rfl⟩
  | some c =>
    obtain ⟨k, rfl, hk, rfl⟩ := at?_some hc
    have hat := at_some h k hk
    have hcc := (h.eq (by rw [net_get hk, SP.mul_assoc])).conn_cells
    obtain ⟨-, -, -, -, -, h5, -⟩ := hcc
    generalize s.conns[k] = c at *
    unfold ptr at hat
    clear hc h
    obtain ⟨cb, ao, cap, inq, came, shut, reset, taken, closed, out⟩ := c
    simp only at *
    cases closed
    all_goals
      go_enter Try.func18, Try.ntmps18
      go_wp2_with (go_at_call 20; refine hat.mono ?_; rintro e w' ⟨rfl, rfl⟩)
      go_ret
      exact ⟨rfl, rfl⟩

set_option maxHeartbeats 1000000 in
theorem written_any (h : St w0 (net a s * R) w) (i : Int) :
    Calls Try.prog 15 #[.pointer (some ⟨a, 0, none⟩), .int .i64 i] w fun e w' => e = .returned (.string (outS (s.at? i))) ∧ w = w' := by
  cases hc : s.at? i with
  | none =>
    have hat := at_none h i (at?_none hc)
    clear hc h
    go_enter Try.func15, Try.ntmps15
    go_wp2_with (go_at_call 20; refine hat.mono ?_; rintro e w' ⟨rfl, rfl⟩)
    go_ret
    exact ⟨rfl, rfl⟩
  | some c =>
    obtain ⟨k, rfl, hk, rfl⟩ := at?_some hc
    have hat := at_some h k hk
    have hcc := (h.eq (by rw [net_get hk, SP.mul_assoc])).conn_cells
    obtain ⟨-, -, -, -, -, -, h6, -⟩ := hcc
    generalize s.conns[k] = c at *
    unfold ptr at hat
    clear hc h
    obtain ⟨cb, ao, cap, inq, came, shut, reset, taken, closed, out⟩ := c
    simp only at *
    all_goals
      go_enter Try.func15, Try.ntmps15
      go_wp2_with (go_at_call 20; refine hat.mono ?_; rintro e w' ⟨rfl, rfl⟩)
      go_ret
      exact ⟨rfl, rfl⟩

end
end Go.Proofs.Ytdgohegjpehofaa
