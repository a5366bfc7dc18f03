/- HolderVersions (crossroadlaw09): versions are raised one by one, by tables alone. Proved: the tied card, whole, for every input. No further condition. -/
import Derived.Test.YtlmoifeinglaeaaDoorLift
import Derived.Test.YtlmoifeinglaeaaDoorHolVer
import Derived.Test.YtlmoifeinglaeaaDoorTie
import Derived.Test.YtlmoifeinglaeaaDoorCards
import Derived.SevenTiedAt
import Derived.Deep.Strs
namespace Go.Proofs.YtlmoifeinglaeaaDoor
open Go.ChangeShapes Go.WideShapes Go.ChangeAt Go.RowKit Go.Deep
set_option linter.unusedVariables false

theorem Tryd.laidOut : laidOutB Tryd.prog = true := by kernel_rfl
theorem Tryd.cellsBool : Tryd.prog.cellsOf 4 = 1 := by kernel_rfl

theorem add_spot {W : World} {x : Addr} {j : Nat} {v : Value} (h : W.cell? (x.add j) = some v) (h0 : W.cell? (x.add 0) ≠ none) : W.cell? ⟨x.block, x.off + j, none⟩ = some v := by
  obtain ⟨b, off, spot⟩ := x
  cases e : W.cell? (Addr.add ⟨b, off, spot⟩ 0) with
  | none => exact absurd e h0
  | some u =>
    have hs := World.cell?_spot e
    simp [Addr.add] at hs
    subst hs
    rw [add_none] at h
    exact h

set_option maxRecDepth 100000 in
theorem hv_lifted (os : Os) (started : os.Started) (H : Type) (enc : TypeId × Value → H) :
    ReturnsInHanded {} Tryd.checked os 3 .any
      (fun w args => (Rows.holderVersionsSpec.pre enc Tryd.prog Tryd.f3 Rows.holderVersionsRow.domain false w args ∧ laidMet Tryd.prog [("crossroad/table.Handlers", Rows.laid_crossroad_table_Handlers)] w) ∧ sizedMet enc Tryd.prog Tryd.f3 (OpenSpec.ofChange Rows.holderVersionsSpec) false w args)
      (Rows.holderVersionsSpec.post enc Tryd.prog Tryd.f3 false true false false) := by
  refine returnsInHanded_of_change_and (C := Tryd.checked) (X := fun w _ => laidMet Tryd.prog [("crossroad/table.Handlers", Rows.laid_crossroad_table_Handlers)] w) (fun _ _ _ hh h => h.of_heap hh) Tryd.own started (by kernel_rfl) Tryd.func3
    (ChangeSpec.witness_at (enc := enc) (C := Tryd.checked) (os := os) (X := fun w _ => laidMet Tryd.prog [("crossroad/table.Handlers", Rows.laid_crossroad_table_Handlers)] w) false (laidWorld os) #[.slice none 0 0] 8 rfl (by kernel_rfl) (by kernel_rfl) (by kernel_rfl) (by kernel_rfl) (by kernel_rfl) (laid_met os _)) ?_
  intro W base args ds gs before hval0 hW hcnd _ hL _
  have hval : ∀ (j : Nat) t v, Tryd.f3.params[j]? = some t → args[j]? = some v → Value.okWide Tryd.prog W .any base t v := hval0
  have hW' := hW
  obtain ⟨p, q, hA0, hV, rfl, hfz, hnd⟩ := hW
  have hA : DataW.TrodAll enc Tryd.prog W 0 (fun _ => true) true Tryd.f3.params.toList args.toList ds p := hA0
  rw [Tryd.params3] at hA hval
  obtain ⟨v0, vs0, d0, ds0, p0, q0, hargs, rfl, rfl, h0, r0⟩ := trodAll_cons hA
  obtain ⟨rfl, rfl, rfl⟩ := trodAll_nil r0
  obtain rfl : args = #[v0] := by cases args; simp_all
  obtain ⟨rfl, rfl⟩ := trodVars_none hV
  obtain ⟨a0, len0, cap0, rfl⟩ := okWide_slice Tryd.underlying22 (hval 0 22 v0 rfl rfl)
  have k0 := h0
  have lt0 : ∀ x ∈ p0, x.block < W.heap.size := by obtain ⟨m, hm⟩ := k0; exact DataW.trod_lt m _ _ _ hm
  obtain ⟨l, hlen, w0⟩ : ∃ l : List Bool, l.length = len0 ∧ ∀ j (h : j < l.length), ∃ g off, a0 = some ⟨g, off, none⟩ ∧ W.cell? ⟨g, off + j, none⟩ = some (.bool l[j]) := by
    obtain ⟨fuel, hf⟩ := h0
    rcases open_slice Tryd.underlying22 hf with ⟨hcs, _⟩ | ⟨x, l, c, m, n, Dd, Pl, hcs, _, hl, hm, hmm, _, hel⟩
    · simp [Value.cells] at hcs
      obtain ⟨rfl, rfl, rfl⟩ := hcs
      exact ⟨[], rfl, fun j h => by simp at h⟩
    · simp [Value.cells] at hcs
      obtain ⟨rfl, rfl, rfl⟩ := hcs
      have hlm : len0 ≤ m := by rw [hmm]; split <;> omega
      have key : ∀ j, ∃ b : Bool, j < len0 → W.cell? (x.add j) = some (.bool b) := by
        intro j
        by_cases hj : j < len0
        · obtain ⟨cs', hc1, hc2⟩ := hel j (by omega)
          rw [Tryd.cellsBool] at hc1
          obtain ⟨_, hlen, hget⟩ := World.cells?_some hc1
          obtain ⟨b, rfl, _⟩ := DataW.trod_bool Tryd.underlying4 hc2
          have g0 := hget 0 (by omega)
          refine ⟨b, fun _ => ?_⟩
          rw [Nat.mul_one, add_add, Nat.add_zero] at g0
          simpa using g0
        · exact ⟨false, fun h => absurd h hj⟩
      obtain ⟨B, hB⟩ := Classical.axiomOfChoice key
      refine ⟨(List.range len0).map B, by simp, fun j hj => ?_⟩
      have hj' : j < len0 := by simpa using hj
      refine ⟨x.block, x.off, ?_, ?_⟩
      · have h00 := hB 0 (by omega)
        have hs := World.cell?_spot h00
        obtain ⟨b, off, spot⟩ := x
        simp [Addr.add] at hs
        subst hs
        rfl
      · have h00 := hB 0 (by omega)
        have := add_spot (hB j hj') (by rw [h00]; simp)
        simpa using this
  clear hA0 hval0
  subst hlen
  refine (versions_any a0 cap0 l W (hg_of_laid hL) w0).mono fun e W' ⟨he, hS⟩ => ?_
  subst he
  have bel := hS.below
  exact ⟨_, rfl, _, _, _, [], _, [], hW', trodAll_mk1 (shut_bool Tryd.underlying4 _), trodAll_mk1 (Below.trod Tryd.laidOut (by kernel_rfl) (of_decide_eq_true (by kernel_rfl)) k0 bel lt0), rfl, bel.frame _, fun h => by cases h⟩

theorem holderVersions_row : Rows.HolderVersionsSaid :=
  OpenClaim.holds_of_wide 3 Tryd.f3 rfl rfl rfl rfl rfl rfl rfl ⟨rfl, rfl, rfl, rfl, rfl⟩ rfl rfl rfl rfl rfl (by kernel_rfl) Tryd.func3 (by kernel_rfl)
    (of_decide_eq_true (by kernel_rfl)) (by unfold Func.isWrapper; first | (rw [if_pos (by decide +kernel)]; kernel_rfl) | (rw [if_neg (by decide +kernel)]; exact ⟨rfl, rfl⟩))
    (fun os started H enc _ => hv_lifted os started H enc)

theorem holderVersions_holds : Rows.HolderVersionsCardSaid :=
  Claim7.holds_tied_plain_at .later [] [.data] true (true, "e41f9437231a03ab8bc7db579a794288745bb9bbf30164ca7fc7ad56793cace2") false
    holderVersions_row (fun _ h => by cases h) (by kernel_rfl) (fun _ h => by cases h) holderVersions_row_tie rfl ⟨rfl, rfl⟩ (by kernel_rfl) rfl
    (fun f fn hf hfn => by
      obtain rfl : f = 3 := Option.some.inj ((show Tryd.prog.funcNamed "crossroad/crossroadlaw09.HolderVersions" = some 3 by kernel_rfl).symm.trans hf) |>.symm
      obtain rfl : fn = Tryd.f3 := (Option.some.inj (Tryd.func3.symm.trans hfn)).symm
      exact ⟨by kernel_rfl, fun j t ht => by
        rw [Tryd.params3] at ht
        have h3 : t = 22 := by
          rcases j with _ | j
          · simpa using ht.symm
          · simp at ht
        subst h3
        exact (show Tryd.prog.wantsStandIn 22 = false by kernel_rfl)⟩)
    (by kernel_rfl)
#print axioms holderVersions_holds
end Go.Proofs.YtlmoifeinglaeaaDoor
