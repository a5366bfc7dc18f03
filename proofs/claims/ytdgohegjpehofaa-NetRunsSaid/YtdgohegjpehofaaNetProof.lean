/- The law NetRuns of layer 16 returns true at every list of calls, and the list reads afterwards as it read before; no condition. -/
import Derived.Test.YtdgohegjpehofaaNetLawG
import Derived.ProofKit
import Derived.Deep.Strs
namespace Go.Proofs.Ytdgohegjpehofaa
open Go.ChangeShapes Go.WideShapes Go.ChangeAt Go.RowKit Go.Deep

theorem Try.own : ownKnob Try.prog.godebug = none := by kernel_rfl
theorem Try.laidOut : laidOutB Try.prog = true := by kernel_rfl
theorem Try.cellsCall : Try.prog.cellsOf 30 = 3 := by kernel_rfl
theorem Try.cellsInt : Try.prog.cellsOf 3 = 1 := by kernel_rfl
theorem Try.cellsString : Try.prog.cellsOf 9 = 1 := by kernel_rfl

/-- What the walk is told of the calls. -/
def IsCalls (w : World) (ao : Option Addr) (len : Nat) : Prop :=
  ∃ (b off : Nat) (K I : Nat → Int) (D : Nat → ByteArray), (0 < len → ao = some ⟨b, off, none⟩ ∧ b < w.heap.size) ∧
    ∀ j, j < len → w.cell? ⟨b, off + j * 3, none⟩ = some (.int .i64 (K j)) ∧ w.cell? ⟨b, off + j * 3 + 1, none⟩ = some (.int .i64 (I j)) ∧ w.cell? ⟨b, off + j * 3 + 2, none⟩ = some (.string (D j))

theorem choose3 {len : Nat} {P : Nat → Int → Int → ByteArray → Prop} (h : ∀ j, j < len → ∃ a b c, P j a b c) : ∃ (K I : Nat → Int) (D : Nat → ByteArray), ∀ j, j < len → P j (K j) (I j) (D j) := by
  have h' : ∀ j, ∃ x : Int × Int × ByteArray, j < len → P j x.1 x.2.1 x.2.2 := by
    intro j
    by_cases hj : j < len
    · obtain ⟨a, b, c, hp⟩ := h j hj
      exact ⟨(a, b, c), fun _ => hp⟩
    · exact ⟨(0, 0, ByteArray.empty), fun hh => absurd hh hj⟩
  exact ⟨fun j => (Classical.choose (h' j)).1, fun j => (Classical.choose (h' j)).2.1, fun j => (Classical.choose (h' j)).2.2, fun j hj => Classical.choose_spec (h' j) hj⟩

theorem add_spot {a : Addr} {n : Nat} {v : Value} {w : World} (h : w.cell? (a.add n) = some v) (h0 : w.cell? (a.add 0) ≠ none) : w.cell? ⟨a.block, a.off + n, none⟩ = some v := by
  by_cases hn : n = 0
  · subst hn
    obtain ⟨b, off, spot⟩ := a
    have hs := World.cell?_spot h
    simp [Addr.add] at hs
    subst hs
    simpa [Addr.add] using h
  · simpa [Addr.add, hn] using h

set_option maxRecDepth 100000 in
theorem lifted (os : Os) (started : os.Started) (H : Type) (enc : TypeId × Value → H) :
    ReturnsInHanded {} Try.checked os 3 .any (Rows.netRunsSpec.pre6 enc Try.prog Try.f3 Rows.netRunsRow.domain false) (Rows.netRunsSpec.post enc Try.prog Try.f3 false true false false) := by
  refine returnsInHanded_of_change (C := Try.checked) Try.own started (by kernel_rfl) Try.func3
    (ChangeSpec.witness6 (enc := enc) (C := Try.checked) false ⟨#[], #[.slice none 0 0], []⟩ 8 (by kernel_rfl) (by kernel_rfl) (by kernel_rfl) (by kernel_rfl)) ?_
  intro W base args ds gs before hval0 hW hcnd _
  have hval : ∀ (j : Nat) t v, Try.f3.params[j]? = some t → args[j]? = some v → Value.okWide Try.prog W .any base t v := hval0
  have hW' := hW
  obtain ⟨p, q, hA0, hV, rfl, hfz, hnd⟩ := hW
  have hA : DataW.TrodAll enc Try.prog W 0 (fun _ => true) true Try.f3.params.toList args.toList ds p := hA0
  rw [Try.params3] at hA hval
  obtain ⟨v0, vs0, d0, ds0, p0, q0, hargs, rfl, rfl, h0, r0⟩ := trodAll_cons hA
  obtain ⟨rfl, rfl, rfl⟩ := trodAll_nil r0
  obtain rfl : args = #[v0] := by cases args; simp_all
  obtain ⟨rfl, rfl⟩ := trodVars_none hV
  obtain ⟨a0, len0, cap0, rfl⟩ := okWide_slice Try.underlying22 (hval 0 22 v0 rfl rfl)
  have k0 := h0
  have lt0 : ∀ x ∈ p0, x.block < W.heap.size := by obtain ⟨m, hm⟩ := k0; exact DataW.trod_lt m _ _ _ hm
  obtain ⟨hm0, w0⟩ : len0 ≤ maxLen ∧ IsCalls W a0 len0 := by
    obtain ⟨fuel, hf⟩ := h0
    rcases open_slice Try.underlying22 hf with ⟨hcs, _⟩ | ⟨x, l, c, m, n, Dd, Pl, hcs, _, hl, hm, hmm, _, hel⟩
    · simp [Value.cells] at hcs
      obtain ⟨rfl, rfl, rfl⟩ := hcs
      exact ⟨Nat.zero_le _, 0, 0, fun _ => 0, fun _ => 0, fun _ => ByteArray.empty, fun h => by omega, fun j hj => by omega⟩
    · simp [Value.cells] at hcs
      obtain ⟨rfl, rfl, rfl⟩ := hcs
      refine ⟨Nat.le_trans hl hm, ?_⟩
      have hlm : len0 ≤ m := by rw [hmm]; split <;> omega
      have key : ∀ j, j < len0 → ∃ a b c, W.cell? (x.add (j * 3 + 0)) = some (.int .i64 a) ∧ W.cell? (x.add (j * 3 + 1)) = some (.int .i64 b) ∧ W.cell? (x.add (j * 3 + 2)) = some (.string c) := by
        intro j hj
        obtain ⟨cs', hc1, hc2⟩ := hel j (by omega)
        rw [Try.cellsCall] at hc1
        obtain ⟨_, hlen, hget⟩ := World.cells?_some hc1
        obtain ⟨y0, y1, y2, n', _, _, t0, t1, t2⟩ := trod_struct3 Try.underlying30 hc2
        match cs', hlen with
        | [c0, c1, c2], _ =>
          simp only [Try.cellsInt, Try.cellsString, List.drop_zero, List.drop_succ_cons, List.take_succ_cons, List.take_zero] at t0 t1 t2
          obtain ⟨n0, e0, _, _⟩ := DataW.trod_int Try.underlying3 t0
          obtain ⟨n1, e1, _, _⟩ := DataW.trod_int Try.underlying3 t1
          obtain ⟨s2, e2, _, _⟩ := DataW.trod_string Try.underlying9 t2
          simp only [List.cons.injEq, and_true] at e0 e1 e2
          subst e0 e1 e2
          have g0 := hget 0 (by omega)
          have g1 := hget 1 (by omega)
          have g2 := hget 2 (by omega)
          rw [add_add] at g0 g1 g2
          exact ⟨n0, n1, s2, g0, g1, g2⟩
      obtain ⟨K, I, D, hK⟩ := choose3 key
      refine ⟨x.block, x.off, K, I, D, ?_, ?_⟩
      · intro hpos
        have h00 := (hK 0 hpos).1
        simp only [Nat.zero_mul, Nat.add_zero] at h00
        have hs := World.cell?_spot h00
        obtain ⟨b, off, spot⟩ := x
        simp [Addr.add] at hs
        subst hs
        exact ⟨rfl, by have := World.block_lt_of_cell? W _ h00; simpa [Addr.add] using this⟩
      · intro j hj
        have hpos : 0 < len0 := by omega
        have h00 := (hK 0 hpos).1
        simp only [Nat.zero_mul, Nat.add_zero] at h00
        obtain ⟨g0, g1, g2⟩ := hK j hj
        have hne : W.cell? (x.add 0) ≠ none := by rw [h00]; simp
        exact ⟨by simpa using add_spot g0 hne, by simpa [Nat.add_assoc] using add_spot g1 hne, by simpa [Nat.add_assoc] using add_spot g2 hne⟩
  clear hA0 hval0
  by_cases hlen : len0 ≤ 150
  · obtain ⟨b, off, K, I, D, hao, hc⟩ := w0
    refine (runs_any a0 b off len0 cap0 K I D W hao hlen hc).mono fun e W' ⟨he, hS⟩ => ?_
    subst he
    have bel := hS.below
    exact ⟨_, rfl, _, _, _, [], _, [], hW', trodAll_mk1 (shut_bool Try.underlying4 _), trodAll_mk1 (Below.trod Try.laidOut (by kernel_rfl) (of_decide_eq_true (by kernel_rfl)) k0 bel lt0), rfl, bel.frame _, fun h => by cases h⟩
  · unfold maxLen at hm0
    refine (runs_long a0 len0 cap0 W (by omega) (by omega)).mono fun e W' ⟨he, hS⟩ => ?_
    subst he
    have bel := hS.below
    exact ⟨_, rfl, _, _, _, [], _, [], hW', trodAll_mk1 (shut_bool Try.underlying4 _), trodAll_mk1 (Below.trod Try.laidOut (by kernel_rfl) (of_decide_eq_true (by kernel_rfl)) k0 bel lt0), rfl, bel.frame _, fun h => by cases h⟩

theorem netRuns_holds : Rows.NetRunsSaid :=
  OpenClaim.holds_of_wide 3 Try.f3 rfl rfl rfl rfl rfl rfl rfl ⟨rfl, rfl, rfl, rfl, rfl⟩ rfl rfl rfl rfl rfl (by kernel_rfl) Try.func3 (by kernel_rfl)
    (of_decide_eq_true (by kernel_rfl)) (by unfold Func.isWrapper; first | (rw [if_pos (by decide +kernel)]; kernel_rfl) | (rw [if_neg (by decide +kernel)]; exact ⟨rfl, rfl⟩))
    (fun os started H enc _ => lifted os started H enc)

#print axioms netRuns_holds
end Go.Proofs.Ytdgohegjpehofaa
