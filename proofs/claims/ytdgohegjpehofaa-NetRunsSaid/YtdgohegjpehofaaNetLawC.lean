/- NetRuns: the loop that looks at each connection. -/
import Derived.Test.YtdgohegjpehofaaNetFr
import Derived.BigQuiet
import Derived.Deep.QuietTactic
namespace Go.Proofs.Ytdgohegjpehofaa
open Go.RowKit

noncomputable def blk3 : Code := (Try.f3.body.bind (findBlock 3)).getD .skip

/-- The slots that go on. -/
structure Goes (f : Nat → Value) (a : Nat) (s : Ns) (l : Lw) (v0 v23 v24 v25 : Value) : Prop where
  f0 : f 0 = v0
  f3 : f 3 = ptr a
  f4 : f 4 = .slice l.ao l.ms.length l.cap
  f5 : f 5 = .slice l.dao l.dials.length l.dcap
  f23 : f 23 = v23
  f24 : f 24 = v24
  f25 : f 25 = v25

theorem at?_nat {s : Ns} {k : Nat} (h : k < s.conns.length) : s.at? (k : Int) = some s.conns[k] := by simp [Ns.at?, h]
theorem at?_len {s : Ns} : s.at? (s.conns.length : Int) = none := by simp [Ns.at?]
theorem at?_neg {s : Ns} : s.at? (-1) = none := by simp [Ns.at?]

set_option maxRecDepth 100000 in
set_option maxHeartbeats 4000000 in
theorem blk3_any {W : World} {a k : Nat} {s : Ns} {l : Lw} {v0 v23 v24 v25 : Value} {w : World} {Q : Exit → Act → World → Prop}
    (t : List Value) (ht : t.length = 403) (hsyn : Syn k s l) (hST : St W (net a s * (law l * 1)) w)
    (hg : Goes (fun i => t.getD i undef) a s l v0 v23 v24 v25) (h337 : t.getD 337 undef = .slice l.ao l.ms.length l.cap) (h338 : t.getD 338 undef = .int .i64 l.ms.length) (h339 : t.getD 339 undef = .int .i64 0)
    (hK : Hid (∀ f w', Goes f a s l v0 v23 v24 v25 → St W (net a s * (law l * 1)) w' → Q .normal (Fr 403 f) w')) :
    Code.wp Try.prog blk3 Q ⟨t.toArray, []⟩ w := by
  refine wp_mono (Q := fun e a' w' => match e with | .normal => ∃ f, a' = Fr 403 f ∧ Goes f a s l v0 v23 v24 v25 ∧ St W (net a s * (law l * 1)) w' | _ => False) ?_ ?_
  rotate_left
  · intro e a' w' h
    cases e with
    | normal => obtain ⟨f, rfl, h1, h2⟩ := h; exact hK.out f w' h1 h2
    | exit id => exact h.elim
    | goto l => exact h.elim
    | ret => exact h.elim
    | panic ch => exact h.elim
    | outgrown => exact h.elim
  conv => arg 2; whnf
  rw [fr_of 403 t ht]
  generalize hf : (fun i => t.getD i undef) = f at hg
  have g337 : f 337 = .slice l.ao l.ms.length l.cap := by rw [← hf]; exact h337
  have g338 : f 338 = .int .i64 l.ms.length := by rw [← hf]; exact h338
  have g339 : f 339 = .int .i64 0 := by rw [← hf]; exact h339
  clear hf h337 h338 h339 ht
  refine wp_block ?_
  refine wp_loop_fr 403 (fun g f w => ∃ i : Nat, i ≤ l.ms.length ∧ g = l.ms.length - i ∧ f 339 = .int .i64 i ∧ f 337 = .slice l.ao l.ms.length l.cap ∧ f 338 = .int .i64 l.ms.length ∧ Goes f a s l v0 v23 v24 v25 ∧ St W (net a s * (law l * 1)) w)
    l.ms.length ⟨f, rfl, 0, Nat.zero_le _, rfl, g339, g337, g338, hg, hST⟩ ?_
  clear g337 g338 g339 hg hST f hK
  rintro g f w ⟨i, hi, rfl, q339, q337, q338, hg, hST⟩ K' hK'
  obtain ⟨q0, q3, q4, q5, q23, q24, q25⟩ := hg
  rw [fr403, q339, q337, q338, q3, q4, q5, q23, q24, q25, q0]
  have hmax := hST.net_len
  rw [hsyn.len] at hmax
  unfold maxLen at hmax
  by_cases hlt : i < l.ms.length
  · have hlt' : i < s.conns.length := by rw [hsyn.len]; exact hlt
    have hL := hST.eq (show _ = law l * (net a s * 1) by ac_rfl)
    obtain ⟨g, off, hao, hp⟩ := hL.law_ptr hlt
    obtain ⟨h0, h1, h2, h3, h4, h5, h6⟩ := (hL.law_mcn hlt).mcn_cells
    have c1 := fun nq => ready_any (hST.drewN nq) i
    have c2 := fun nq => came_any (hST.drewN nq) i
    have c3 := fun nq => gone_any (hST.drewN nq) i
    have c4 := fun nq => closed_any (hST.drewN nq) i
    have c5 := fun nq => written_any (hST.drewN nq) i
    have hab := hsyn.at hlt' hlt
    simp only [at?_nat hlt', readyB, cameI, goneB, closedB, outS] at c1 c2 c3 c4 c5
    have HST := Lib.hid hST
    clear hL hST hsyn
    rw [hao]
    generalize l.ms[i] = m at *
    generalize s.conns[i] = c at *
    obtain ⟨cb, cao, ccap, inq, came, shut, reset, taken, closed, out⟩ := c
    obtain ⟨mb, mao, mcap, ab⟩ := m
    simp only [Cn.ab] at hab
    subst hab
    simp only at h0 h1 h2 h3 h4 h5 h6 c1 c2 c3 c4 c5
    unfold ptr at *
    have Hao := Lib.hid hao
    clear hao
    cases inq with
    | cons x r =>
      simp only [List.length_cons] at h0
      simp only [List.isEmpty_cons, Bool.not_false, Bool.true_or] at c1
      go_wp2_with fail
      go_quiet ((first | (go_at_call 16; exact Calls.quiet_of_same ((c1 _).mono fun _ _ h => ⟨h.1, h.2.symm⟩)) | (go_at_call 19; exact Calls.quiet_of_same ((c2 _).mono fun _ _ h => ⟨h.1, h.2.symm⟩)) | (go_at_call 17; exact Calls.quiet_of_same ((c3 _).mono fun _ _ h => ⟨h.1, h.2.symm⟩)) | (go_at_call 18; exact Calls.quiet_of_same ((c4 _).mono fun _ _ h => ⟨h.1, h.2.symm⟩)) | (go_at_call 15; exact Calls.quiet_of_same ((c5 _).mono fun _ _ h => ⟨h.1, h.2.symm⟩))))
      go_wp2_with fail
      exact hK'.out _ _ _ (by omega) (Frm.mk _ rfl ⟨i + 1, by omega, rfl, by go_num, by rw [Hao.out]; rfl, rfl, ⟨rfl, rfl, by rw [Hao.out]; rfl, rfl, rfl, rfl, rfl⟩, HST.out.drewN _⟩)
    | nil =>
      simp only [List.length_nil] at h0
      cases shut with
      | true =>
        simp only [List.isEmpty_nil, Bool.not_true, Bool.false_or, Bool.true_or] at c1
        go_wp2_with fail
        go_quiet ((first | (go_at_call 16; exact Calls.quiet_of_same ((c1 _).mono fun _ _ h => ⟨h.1, h.2.symm⟩)) | (go_at_call 19; exact Calls.quiet_of_same ((c2 _).mono fun _ _ h => ⟨h.1, h.2.symm⟩)) | (go_at_call 17; exact Calls.quiet_of_same ((c3 _).mono fun _ _ h => ⟨h.1, h.2.symm⟩)) | (go_at_call 18; exact Calls.quiet_of_same ((c4 _).mono fun _ _ h => ⟨h.1, h.2.symm⟩)) | (go_at_call 15; exact Calls.quiet_of_same ((c5 _).mono fun _ _ h => ⟨h.1, h.2.symm⟩))))
        go_wp2_with fail
        exact hK'.out _ _ _ (by omega) (Frm.mk _ rfl ⟨i + 1, by omega, rfl, by go_num, by rw [Hao.out]; rfl, rfl, ⟨rfl, rfl, by rw [Hao.out]; rfl, rfl, rfl, rfl, rfl⟩, HST.out.drewN _⟩)
      | false =>
        simp only [List.isEmpty_nil, Bool.not_true, Bool.false_or] at c1
        go_wp2_with fail
        go_quiet ((first | (go_at_call 16; exact Calls.quiet_of_same ((c1 _).mono fun _ _ h => ⟨h.1, h.2.symm⟩)) | (go_at_call 19; exact Calls.quiet_of_same ((c2 _).mono fun _ _ h => ⟨h.1, h.2.symm⟩)) | (go_at_call 17; exact Calls.quiet_of_same ((c3 _).mono fun _ _ h => ⟨h.1, h.2.symm⟩)) | (go_at_call 18; exact Calls.quiet_of_same ((c4 _).mono fun _ _ h => ⟨h.1, h.2.symm⟩)) | (go_at_call 15; exact Calls.quiet_of_same ((c5 _).mono fun _ _ h => ⟨h.1, h.2.symm⟩))))
        go_wp2_with fail
        exact hK'.out _ _ _ (by omega) (Frm.mk _ rfl ⟨i + 1, by omega, rfl, by go_num, by rw [Hao.out]; rfl, rfl, ⟨rfl, rfl, by rw [Hao.out]; rfl, rfl, rfl, rfl, rfl⟩, HST.out.drewN _⟩)
  · have hge : ¬ i < l.ms.length := hlt
    have HST := Lib.hid hST
    clear hST
    clear hK'
    go_wp2_with fail
    exact ⟨_, fr_of 403 _ rfl, ⟨rfl, rfl, rfl, rfl, rfl, rfl, rfl⟩, HST.out⟩
end Go.Proofs.Ytdgohegjpehofaa
