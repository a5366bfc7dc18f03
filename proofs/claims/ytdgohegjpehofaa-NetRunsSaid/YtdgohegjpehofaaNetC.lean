/- The network's methods that write: Shut, Close, Write, Reset, Send, Read, Accept, Dial. -/
import Derived.Test.YtdgohegjpehofaaNetA
import Derived.Deep.RegionWith
namespace Go.Proofs.Ytdgohegjpehofaa
open Go.RowKit

section
variable {w0 w : World} {R : SP} {a : Nat} {s : Ns}

theorem St.conn_shut {c : Cn} (h : St w0 (conn c * R) w) (b : Bool) : St w0 (conn { c with shut := b } * R) (w.setCell ⟨c.blk, 2, none⟩ (.bool b)) := by
  unfold conn at h ⊢
  rw [SP.mul_assoc] at h ⊢
  exact h.setCell (i := 2) (.bool b)
theorem St.conn_reset {c : Cn} (h : St w0 (conn c * R) w) (b : Bool) : St w0 (conn { c with reset := b } * R) (w.setCell ⟨c.blk, 3, none⟩ (.bool b)) := by
  unfold conn at h ⊢
  rw [SP.mul_assoc] at h ⊢
  exact h.setCell (i := 3) (.bool b)
theorem St.conn_taken {c : Cn} (h : St w0 (conn c * R) w) (b : Bool) : St w0 (conn { c with taken := b } * R) (w.setCell ⟨c.blk, 4, none⟩ (.bool b)) := by
  unfold conn at h ⊢
  rw [SP.mul_assoc] at h ⊢
  exact h.setCell (i := 4) (.bool b)
theorem St.conn_closed {c : Cn} (h : St w0 (conn c * R) w) (b : Bool) : St w0 (conn { c with closed := b } * R) (w.setCell ⟨c.blk, 5, none⟩ (.bool b)) := by
  unfold conn at h ⊢
  rw [SP.mul_assoc] at h ⊢
  exact h.setCell (i := 5) (.bool b)
theorem St.conn_out {c : Cn} (h : St w0 (conn c * R) w) (b : ByteArray) : St w0 (conn { c with out := b } * R) (w.setCell ⟨c.blk, 6, none⟩ (.string b)) := by
  unfold conn at h ⊢
  rw [SP.mul_assoc] at h ⊢
  exact h.setCell (i := 6) (.string b)

theorem St.net_conn (h : St w0 (net a s * R) w) {k : Nat} (hk : k < s.conns.length) : St w0 (conn s.conns[k] * (netBut a s k * R)) w := h.eq (by rw [net_get hk, SP.mul_assoc])
theorem St.net_back {k : Nat} (hk : k < s.conns.length) {c : Cn} (hb : c.blk = s.conns[k].blk) (h : St w0 (conn c * (netBut a s k * R)) w) : St w0 (net a (s.put k c) * R) w := h.eq (by rw [net_put hk hb, SP.mul_assoc])

/-- May a client shut? -/
def shutOk : Option Cn → Bool
  | none => false
  | some c => !c.shut && !c.reset && !c.closed

set_option maxHeartbeats 1000000 in
theorem shut_no (h : St w0 (net a s * R) w) (i : Int) (hno : shutOk (s.at? i) = false) :
    Calls Try.prog 7 #[.pointer (some ⟨a, 0, none⟩), .int .i64 i] w fun e w' => e = .returned (.bool false) ∧ w = w' := by
  cases hc : s.at? i with
  | none =>
    have hat := at_none h i (at?_none hc)
    clear hc h hno
    go_enter Try.func7, Try.ntmps7
    go_wp2_with (go_at_call 20; refine hat.mono ?_; rintro e w' ⟨rfl, rfl⟩)
    go_ret
    exact ⟨rfl, rfl⟩
  | some c =>
    rw [hc] at hno
    obtain ⟨k, rfl, hk, rfl⟩ := at?_some hc
    have hat := at_some h k hk
    obtain ⟨-, -, h2, h3, -, h5, -⟩ := (h.net_conn hk).conn_cells
    generalize s.conns[k] = c at *
    unfold ptr at hat
    clear hc h
    obtain ⟨cb, ao, cap, inq, came, shut, reset, taken, closed, out⟩ := c
    simp only [shutOk] at *
    cases shut <;> cases reset <;> cases closed
    all_goals first
      | (exfalso; revert hno; decide)
      | (clear hno
         go_enter Try.func7, Try.ntmps7
         go_wp2_with (go_at_call 20; refine hat.mono ?_; rintro e w' ⟨rfl, rfl⟩)
         go_ret
         exact ⟨rfl, rfl⟩)

set_option maxHeartbeats 1000000 in
theorem shut_ok (h : St w0 (net a s * R) w) (k : Nat) (hk : k < s.conns.length) (hok : shutOk (some s.conns[k]) = true) :
    Calls Try.prog 7 #[.pointer (some ⟨a, 0, none⟩), .int .i64 k] w fun e w' => e = .returned (.bool true) ∧ St w0 (net a (s.put k { s.conns[k] with shut := true }) * R) w' := by
  have hat := at_some h k hk
  have hS := h.net_conn hk
  obtain ⟨-, -, h2, h3, -, h5, -, hf⟩ := hS.conn_cells
  have hfin : ∀ w', w' = w.setCell ⟨s.conns[k].blk, 2, none⟩ (.bool true) → St w0 (net a (s.put k { s.conns[k] with shut := true }) * R) w' := by
    rintro _ rfl
    exact (hS.conn_shut true).net_back hk rfl
  have Hfin := Lib.hid hfin
  clear hfin
  generalize net a (s.put k { s.conns[k] with shut := true }) = N at *
  generalize s.conns[k] = c at *
  unfold ptr at hat
  clear h hS
  obtain ⟨cb, ao, cap, inq, came, shut, reset, taken, closed, out⟩ := c
  simp only [shutOk] at *
  cases shut <;> cases reset <;> cases closed
  all_goals first
    | (exfalso; revert hok; decide)
    | (clear hok
       go_enter Try.func7, Try.ntmps7
       go_wp2_with (go_at_call 20; refine hat.mono ?_; rintro e w' ⟨rfl, rfl⟩)
       go_ret
       exact ⟨rfl, Hfin.out _ rfl⟩)

/-- Is there such a connection? -/
def thereB : Option Cn → Bool
  | none => false
  | some _ => true
/-- May it be reset? -/
def resetOk : Option Cn → Bool
  | none => false
  | some c => !c.reset && !c.closed

set_option maxHeartbeats 1000000 in
theorem close_no (h : St w0 (net a s * R) w) (i : Int) (hno : thereB (s.at? i) = false) :
    Calls Try.prog 12 #[.pointer (some ⟨a, 0, none⟩), .int .i64 i] w fun e w' => e = .returned (.tuple #[]) ∧ w = w' := by
  cases hc : s.at? i with
  | none =>
    have hat := at_none h i (at?_none hc)
    clear hc h hno
    go_enter Try.func12, Try.ntmps12
    go_wp2_with (go_at_call 20; refine hat.mono ?_; rintro e w' ⟨rfl, rfl⟩)
    go_end0
    exact ⟨rfl, rfl⟩
  | some c =>
    rw [hc] at hno
    obtain ⟨k, rfl, hk, rfl⟩ := at?_some hc
    have hat := at_some h k hk
    obtain ⟨h0, h1, h2, h3, h4, h5, h6, hf⟩ := (h.net_conn hk).conn_cells
    generalize s.conns[k] = c at *
    unfold ptr at hat
    clear hc h
    obtain ⟨cb, ao, cap, inq, came, shut, reset, taken, closed, out⟩ := c
    simp only [thereB] at *
    skip
    all_goals first
      | (exfalso; revert hno; decide)
      | (clear hno
         go_enter Try.func12, Try.ntmps12
         go_wp2_with (go_at_call 20; refine hat.mono ?_; rintro e w' ⟨rfl, rfl⟩)
         go_end0
         exact ⟨rfl, rfl⟩)

set_option maxHeartbeats 1000000 in
theorem close_ok (h : St w0 (net a s * R) w) (k : Nat) (hk : k < s.conns.length) (hok : thereB (some s.conns[k]) = true) :
    Calls Try.prog 12 #[.pointer (some ⟨a, 0, none⟩), .int .i64 k] w fun e w' => e = .returned (.tuple #[]) ∧ St w0 (net a (s.put k { s.conns[k] with closed := true }) * R) w' := by
  have hat := at_some h k hk
  have hS := h.net_conn hk
  obtain ⟨h0, h1, h2, h3, h4, h5, h6, hf⟩ := hS.conn_cells
  have hfin : ∀ w', w' = w.setCell ⟨s.conns[k].blk, 5, none⟩ (.bool true) → St w0 (net a (s.put k { s.conns[k] with closed := true }) * R) w' := by
    rintro _ rfl
    exact (hS.conn_closed true).net_back hk rfl
  have Hfin := Lib.hid hfin
  clear hfin
  generalize net a (s.put k { s.conns[k] with closed := true }) = N at *
  generalize s.conns[k] = c at *
  unfold ptr at hat
  clear h hS
  obtain ⟨cb, ao, cap, inq, came, shut, reset, taken, closed, out⟩ := c
  simp only [thereB] at *
  skip
  all_goals first
    | (exfalso; revert hok; decide)
    | (clear hok
       go_enter Try.func12, Try.ntmps12
       go_wp2_with (go_at_call 20; refine hat.mono ?_; rintro e w' ⟨rfl, rfl⟩)
       go_end0
       exact ⟨rfl, Hfin.out _ rfl⟩)

set_option maxHeartbeats 1000000 in
theorem write_no (h : St w0 (net a s * R) w) (i : Int) (d : ByteArray) (hno : resetOk (s.at? i) = false) :
    Calls Try.prog 11 #[.pointer (some ⟨a, 0, none⟩), .int .i64 i, .string d] w fun e w' => e = .returned (.tuple #[]) ∧ w = w' := by
  cases hc : s.at? i with
  | none =>
    have hat := at_none h i (at?_none hc)
    clear hc h hno
    go_enter Try.func11, Try.ntmps11
    go_wp2_with (go_at_call 20; refine hat.mono ?_; rintro e w' ⟨rfl, rfl⟩)
    go_end0
    exact ⟨rfl, rfl⟩
  | some c =>
    rw [hc] at hno
    obtain ⟨k, rfl, hk, rfl⟩ := at?_some hc
    have hat := at_some h k hk
    obtain ⟨h0, h1, h2, h3, h4, h5, h6, hf⟩ := (h.net_conn hk).conn_cells
    generalize s.conns[k] = c at *
    unfold ptr at hat
    clear hc h
    obtain ⟨cb, ao, cap, inq, came, shut, reset, taken, closed, out⟩ := c
    simp only [resetOk] at *
    cases reset <;> cases closed
    all_goals first
      | (exfalso; revert hno; decide)
      | (clear hno
         go_enter Try.func11, Try.ntmps11
         go_wp2_with (go_at_call 20; refine hat.mono ?_; rintro e w' ⟨rfl, rfl⟩)
         go_end0
         exact ⟨rfl, rfl⟩)

set_option maxHeartbeats 1000000 in
theorem write_ok (h : St w0 (net a s * R) w) (k : Nat) (hk : k < s.conns.length) (d : ByteArray) (hd : s.conns[k].out.size + d.size ≤ 9223372036854775807) (hok : resetOk (some s.conns[k]) = true) :
    Calls Try.prog 11 #[.pointer (some ⟨a, 0, none⟩), .int .i64 k, .string d] w fun e w' => e = .returned (.tuple #[]) ∧ St w0 (net a (s.put k { s.conns[k] with out := s.conns[k].out ++ d }) * R) w' := by
  have hat := at_some h k hk
  have hS := h.net_conn hk
  obtain ⟨h0, h1, h2, h3, h4, h5, h6, hf⟩ := hS.conn_cells
  have hfin : ∀ w', w' = w.setCell ⟨s.conns[k].blk, 6, none⟩ (.string (s.conns[k].out ++ d)) → St w0 (net a (s.put k { s.conns[k] with out := s.conns[k].out ++ d }) * R) w' := by
    rintro _ rfl
    exact (hS.conn_out _).net_back hk rfl
  have Hfin := Lib.hid hfin
  clear hfin
  generalize net a (s.put k { s.conns[k] with out := s.conns[k].out ++ d }) = N at *
  generalize s.conns[k] = c at *
  unfold ptr at hat
  clear h hS
  obtain ⟨cb, ao, cap, inq, came, shut, reset, taken, closed, out⟩ := c
  simp only [resetOk] at *
  cases reset <;> cases closed
  all_goals first
    | (exfalso; revert hok; decide)
    | (clear hok
       go_enter Try.func11, Try.ntmps11
       go_wp2_with (go_at_call 20; refine hat.mono ?_; rintro e w' ⟨rfl, rfl⟩)
       go_end0
       exact ⟨rfl, Hfin.out _ rfl⟩)

set_option maxHeartbeats 1000000 in
theorem reset_no (h : St w0 (net a s * R) w) (i : Int) (hno : resetOk (s.at? i) = false) :
    Calls Try.prog 8 #[.pointer (some ⟨a, 0, none⟩), .int .i64 i] w fun e w' => e = .returned (.bool false) ∧ w = w' := by
  cases hc : s.at? i with
  | none =>
    have hat := at_none h i (at?_none hc)
    clear hc h hno
    go_enter Try.func8, Try.ntmps8
    go_wp2_with (go_at_call 20; refine hat.mono ?_; rintro e w' ⟨rfl, rfl⟩)
    go_ret
    exact ⟨rfl, rfl⟩
  | some c =>
    rw [hc] at hno
    obtain ⟨k, rfl, hk, rfl⟩ := at?_some hc
    have hat := at_some h k hk
    obtain ⟨h0, h1, h2, h3, h4, h5, h6, hf⟩ := (h.net_conn hk).conn_cells
    generalize s.conns[k] = c at *
    unfold ptr at hat
    clear hc h
    obtain ⟨cb, ao, cap, inq, came, shut, reset, taken, closed, out⟩ := c
    simp only [resetOk] at *
    cases reset <;> cases closed
    all_goals first
      | (exfalso; revert hno; decide)
      | (clear hno
         go_enter Try.func8, Try.ntmps8
         go_wp2_with (go_at_call 20; refine hat.mono ?_; rintro e w' ⟨rfl, rfl⟩)
         go_ret
         exact ⟨rfl, rfl⟩)

end
end Go.Proofs.Ytdgohegjpehofaa
