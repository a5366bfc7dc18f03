/- What is neither owned nor old, kept: the separation logic's frame over blocks that are told by a predicate. No program in sight. -/
import Derived.Test.YtlmoifeinglaeaaDoorSlo
namespace Go.Proofs.YtlmoifeinglaeaaDoor
open Go.RowKit

/-- P's blocks are none of A. -/
def SP.off (A : Nat → Prop) (P : SP) : Prop := ∀ h, P h → ∀ k, A k → h k = none
/-- What lies in A beside the old world, as it is in the world w5. -/
noncomputable def SP.keep (A : Nat → Prop) (w w5 : World) : SP := fun h => h = fun k => open Classical in if w.heap.size ≤ k ∧ A k then w5.heap[k]? else none

theorem SP.off_one {A : Nat → Prop} : SP.off A 1 := by rintro h rfl k _; rfl
theorem SP.off_mul {A : Nat → Prop} {P Q : SP} (h1 : SP.off A P) (h2 : SP.off A Q) : SP.off A (P * Q) := by
  rintro h ⟨a, b, _, rfl, ha, hb⟩ k hk
  simp [Hp.join, h1 a ha k hk, h2 b hb k hk]
theorem SP.off_blk {A : Nat → Prop} {b : Nat} {o : Obj} (h : ¬ A b) : SP.off A (SP.blk b o) := by
  rintro _ rfl k hk
  have : k ≠ b := fun e => h (e ▸ hk)
  simp [Hp.one, this]
theorem SP.off_slo {A : Nat → Prop} {E : TypeId} {sz n cap : Nat} {ao : Option Addr} {xs : List Value} (h : ∀ g off, ao = some ⟨g, off, none⟩ → ¬ A g) : SP.off A (slo E sz ao n cap xs) := by
  rintro x ⟨_, _, _, ⟨_, _, rfl⟩ | ⟨g, off, cur, e, _, _, rfl⟩⟩ k hk
  · rfl
  · have : k ≠ g := fun e' => h g off e (e' ▸ hk)
    simp [Hp.one, this]

theorem St.keepIn {w w5 : World} {P : SP} {A : Nat → Prop} (h : St w P w5) (hP : SP.off A P) : St w (P * SP.keep A w w5) w5 := by
  obtain ⟨h1, h2, h3, h4, hh, ⟨a, b, hd, rfl, ho, hp⟩, hs⟩ := h
  cases ho
  refine ⟨h1, h2, h3, h4, _, ⟨(fun k => w.heap[k]?), Hp.join b (fun k => open Classical in if w.heap.size ≤ k ∧ A k then w5.heap[k]? else none), ?_, rfl, rfl, b, _, ?_, rfl, hp, rfl⟩, ?_⟩
  · intro k
    have g := hd k
    simp only [Hp.join] at g ⊢
    by_cases hk : w.heap.size ≤ k ∧ A k
    · left
      simp; omega
    · simp only [hk, if_false, Option.or_none]; exact g
  · intro k
    by_cases hk : w.heap.size ≤ k ∧ A k
    · left; exact hP b hp k hk.2
    · right; simp only [hk, if_false]
  · intro k o hk
    have g := hs k
    simp only [Hp.join] at g hk
    by_cases hA : w.heap.size ≤ k ∧ A k
    · have hb := hP b hp k hA.2
      have hw : w.heap[k]? = none := by simpa using hA.1
      simp only [hA, and_self, if_true, hb, hw, Option.none_or] at hk
      exact hk
    · simp only [hA, if_false, Option.or_none] at hk
      exact g o hk

theorem St.kept {w w5 w6 : World} {P Q : SP} {A : Nat → Prop} (h : St w (P * SP.keep A w w5) w6) (h5 : St w Q w5) {k : Nat} {o : Obj} (hk : A k) (ho : w5.heap[k]? = some o) : w6.heap[k]? = some o := by
  by_cases hlt : k < w.heap.size
  · rw [h.old hlt, ← h5.old hlt]; exact ho
  · obtain ⟨h1, h2, h3, h4, hh, ⟨a, b, hd, rfl, ha, c, d, hd', rfl, hp, hq⟩, hs⟩ := h
    cases hq
    apply hs
    have g := hd k
    have g' := hd' k
    cases ha
    have hA : w.heap.size ≤ k ∧ A k := ⟨by omega, hk⟩
    have hw : w.heap[k]? = none := by simp; omega
    simp only [Hp.join] at g g' ⊢
    simp only [hA, and_self, if_true, ho, hw] at g g' ⊢
    simp at g'
    simp [g']
end Go.Proofs.YtlmoifeinglaeaaDoor
