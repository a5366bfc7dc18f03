/- Maps whose keys are bools: the law of the key's type. No program in sight. -/
import Derived.Test.YtlmoifeinglaeaaDoorMapG
namespace Go.Proofs.YtlmoifeinglaeaaDoor
open Go.RowKit Go.ChangeMaps

theorem findNow_bool (k : Bool) : ∀ (es : List MapEntry) (kv : List (Bool × Value)) (i : Nat), es.map (fun e => (e.key, e.val)) = kv.map (fun x => (Value.bool x.1, x.2)) →
    ∃ r, Instr.findNow .bool (.bool k) es i = some r ∧ r.map (·.2) = lg kv k
  | [], [], _, _ => ⟨none, rfl, rfl⟩
  | [], _ :: _, _, h => by simp at h
  | _ :: _, [], _, h => by simp at h
  | e :: es, x :: kv, i, h => by
    simp only [List.map_cons, List.cons.injEq, Prod.mk.injEq] at h
    obtain ⟨⟨h1, h2⟩, h3⟩ := h
    unfold Instr.findNow
    rw [h1]
    by_cases hk : k = x.1
    · exact ⟨some (i, e.val), by simp [Instr.sameNow, hk], by simp [lg, hk, h2]⟩
    · obtain ⟨r, hr1, hr2⟩ := findNow_bool k es kv (i + 1) h3
      have hk' : (k == x.1) = false := by simpa using hk
      exact ⟨r, by simp [Instr.sameNow, hk', hr1], by rw [hr2]; simp [lg, hk]⟩

theorem keyLaw_bool {P : Program} {T : TypeId} (hT : P.underlying T = some .bool) : KeyLaw P T Value.bool := by
  refine ⟨fun e k w => by
    show (Instr.checkKey e (9999 + 1) T (.bool k)).run P w = _
    unfold Instr.checkKey
    simp [run_underlying hT, Result.andThen], fun es kv k w h => ?_⟩
  obtain ⟨r, h1, h2⟩ := findNow_bool k es kv 0 h
  exact ⟨r, by simp [Instr.findKey, run_underlying hT, h1, Result.andThen], h2⟩
end Go.Proofs.YtlmoifeinglaeaaDoor
