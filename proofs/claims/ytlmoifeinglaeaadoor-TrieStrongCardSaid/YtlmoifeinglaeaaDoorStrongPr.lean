/- TrieStrong (crossroadlaw08): words are ahead of what stands for any one, that ahead of what stands for all. Proved: the tied card, whole, for every input. No further condition. -/
import Derived.Test.YtlmoifeinglaeaaDoorLift
import Derived.Test.YtlmoifeinglaeaaDoorStrongW
import Derived.Test.YtlmoifeinglaeaaDoorTie
import Derived.Test.YtlmoifeinglaeaaDoorCards
import Derived.SevenTiedAt
import Derived.Deep.Strs
namespace Go.Proofs.YtlmoifeinglaeaaDoor
open Go.ChangeShapes Go.WideShapes Go.ChangeAt Go.RowKit Go.Deep Go.ChangeMaps
set_option linter.unusedVariables false

theorem trieStrong_laidOut : laidOutB Tryd.prog = true := by kernel_rfl

set_option maxRecDepth 100000 in
theorem trieStrong_lifted (os : Os) (started : os.Started) (H : Type) (enc : TypeId × Value → H) :
    ReturnsInHanded {} Tryd.checked os 4 .any
      (fun w args => (Rows.trieStrongSpec.pre enc Tryd.prog Tryd.f4 Rows.trieStrongRow.domain false w args ∧ laidMet Tryd.prog [("crossroad/table.Handlers", Rows.laid_crossroad_table_Handlers)] w) ∧ sizedMet enc Tryd.prog Tryd.f4 (OpenSpec.ofChange Rows.trieStrongSpec) false w args)
      (Rows.trieStrongSpec.post enc Tryd.prog Tryd.f4 false true false false) := by
  refine returnsInHanded_of_change_and (C := Tryd.checked) (X := fun w _ => laidMet Tryd.prog [("crossroad/table.Handlers", Rows.laid_crossroad_table_Handlers)] w) (fun _ _ _ hh h => h.of_heap hh) Tryd.own started (by kernel_rfl) Tryd.func4
    (ChangeSpec.witness_at (enc := enc) (C := Tryd.checked) (os := os) (X := fun w _ => laidMet Tryd.prog [("crossroad/table.Handlers", Rows.laid_crossroad_table_Handlers)] w) false (laidWorld os) #[.int .i64 0, .string ByteArray.empty] 8 rfl (by kernel_rfl) (by kernel_rfl) (by kernel_rfl) (by kernel_rfl) (by kernel_rfl) (laid_met os _)) ?_
  intro W base args ds gs before hval0 hW hcnd _ hL _
  have hval : ∀ (j : Nat) t v, Tryd.f4.params[j]? = some t → args[j]? = some v → Value.okWide Tryd.prog W .any base t v := hval0
  have hW' := hW
  obtain ⟨p, q, hA0, hV, rfl, hfz, hnd⟩ := hW
  have hA : DataW.TrodAll enc Tryd.prog W 0 (fun _ => true) true Tryd.f4.params.toList args.toList ds p := hA0
  rw [Tryd.params4] at hA hval
  obtain ⟨v0, vs0, d0, ds0, p0, q0, hargs, rfl, rfl, h0, r0⟩ := trodAll_cons hA
  obtain ⟨v1, vs1, d1, ds1, p1, q1, rfl, rfl, rfl, h1, r1⟩ := trodAll_cons r0
  obtain ⟨rfl, rfl, rfl⟩ := trodAll_nil r1
  obtain rfl : args = #[v0, v1] := by cases args; simp_all
  obtain ⟨rfl, rfl⟩ := trodVars_none hV
  have k0 := h0
  have lt0 : ∀ x ∈ p0, x.block < W.heap.size := by obtain ⟨m, hm⟩ := k0; exact DataW.trod_lt m _ _ _ hm
  obtain ⟨a0, rfl, -, -, w0⟩ := open_int Tryd.underlying3 (hval 0 3 v0 rfl rfl) h0
  have k1 := h1
  have lt1 : ∀ x ∈ p1, x.block < W.heap.size := by obtain ⟨m, hm⟩ := k1; exact DataW.trod_lt m _ _ _ hm
  obtain ⟨a1, rfl, -, -, w1⟩ := open_string Tryd.underlying9 (hval 1 9 v1 rfl rfl) h1
  clear hA0 hval0
  have hG := hg_of_laid hL
  refine (show Calls Tryd.prog 4 #[.int .i64 a0, .string a1] W (fun e W' => e = .returned (.bool true) ∧ St W 1 W') from by (have := strong_any a0 (bl a1) W hG; rw [ba_bl] at this; exact this)).mono fun e W' ⟨he, hS⟩ => ?_
  subst he
  have bel := hS.below
  exact ⟨_, rfl, _, _, _, [], _, [], hW', trodAll_mk1 (shut_bool Tryd.underlying4 _), (trodAll_cons_mk (Below.trod trieStrong_laidOut (by kernel_rfl) (of_decide_eq_true (by kernel_rfl)) k0 bel lt0) (trodAll_cons_mk (Below.trod trieStrong_laidOut (by kernel_rfl) (of_decide_eq_true (by kernel_rfl)) k1 bel lt1) trodAll_mk0)), rfl, bel.frame _, fun h => by cases h⟩

theorem trieStrong_row : Rows.TrieStrongSaid :=
  OpenClaim.holds_of_wide 4 Tryd.f4 rfl rfl rfl rfl rfl rfl rfl ⟨rfl, rfl, rfl, rfl, rfl⟩ rfl rfl rfl rfl rfl (by kernel_rfl) Tryd.func4 (by kernel_rfl)
    (of_decide_eq_true (by kernel_rfl)) (by unfold Func.isWrapper; first | (rw [if_pos (by decide +kernel)]; kernel_rfl) | (rw [if_neg (by decide +kernel)]; exact ⟨rfl, rfl⟩))
    (fun os started H enc _ => trieStrong_lifted os started H enc)

theorem trieStrong_holds : Rows.TrieStrongCardSaid :=
  Claim7.holds_tied_plain_at .later [] [.data] true (true, "e41f9437231a03ab8bc7db579a794288745bb9bbf30164ca7fc7ad56793cace2") false
    trieStrong_row (fun _ h => by cases h) (by kernel_rfl) (fun _ h => by cases h) trieStrong_row_tie rfl ⟨rfl, rfl⟩ (by kernel_rfl) rfl
    (fun f fn hf hfn => by
      obtain rfl : f = 4 := Option.some.inj ((show Tryd.prog.funcNamed "crossroad/crossroadlaw08.TrieStrong" = some 4 by kernel_rfl).symm.trans hf) |>.symm
      obtain rfl : fn = Tryd.f4 := (Option.some.inj (Tryd.func4.symm.trans hfn)).symm
      exact ⟨by kernel_rfl, fun j t ht => by
        rw [Tryd.params4] at ht
        have key : Tryd.prog.wantsStandIn t = false := by
          rcases j with _ | j
          · obtain rfl : t = 3 := by simpa using ht.symm
            kernel_rfl
          rcases j with _ | j
          · obtain rfl : t = 9 := by simpa using ht.symm
            kernel_rfl
          simp at ht
        exact key⟩)
    (by kernel_rfl)
#print axioms trieStrong_holds
end Go.Proofs.YtlmoifeinglaeaaDoor
