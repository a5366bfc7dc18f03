/- A region by an invariant: slots that hold what their operations made; one operation's step. No program in sight. -/
import Derived.Test.YtlmoifeinglaeaaDoorInv
namespace Go.Proofs.YtlmoifeinglaeaaDoor
open Go.RowKit

/-- Slots that hold: fixed ones (slot, value), and those of operations that are done (operation, slot, value). -/
structure Slots (n : Nat) (fx : List (Nat × Value)) (cs : List (Nat × Nat × Value)) (f : Nat → Bool) (a : Act) : Prop where
  defers : a.defers = []
  size : a.tmps.size = n
  fxd : ∀ x ∈ fx, a.tmps.getD x.1 undef = x.2
  csd : ∀ x ∈ cs, f x.1 = true → a.tmps.getD x.2.1 undef = x.2.2

section
variable {n : Nat} {fx : List (Nat × Value)} {cs : List (Nat × Nat × Value)} {f : Nat → Bool} {a : Act}

theorem put_getD {d j : Nat} {v : Value} (hd : d < a.tmps.size) : (a.put (some d) v).tmps.getD j undef = if j = d then v else a.tmps.getD j undef := by
  unfold Act.put
  by_cases e : j = d
  · subst e; simp [Array.getD, hd]
  · have e' : ¬ d = j := fun h => e h.symm
    rw [if_neg e]
    simp only [Array.getD_eq_getD_getElem?]
    rw [Array.getElem?_setIfInBounds_ne e']

theorem Slots.put_const (h : Slots n fx cs f a) (i d : Nat) (v : Value) (hd : d < n) (h1 : ∀ x ∈ fx, x.1 ≠ d) (h2 : ∀ x ∈ cs, (x.1 = i ∧ x.2 = (d, v)) ∨ (x.1 ≠ i ∧ x.2.1 ≠ d)) :
    Slots n fx cs (fun j => if j = i then true else f j) (a.put (some d) v) := by
  have hs : d < a.tmps.size := by rw [h.size]; exact hd
  refine ⟨by simpa [Act.put] using h.defers, by simpa [Act.put] using h.size, fun x hx => ?_, fun x hx hf => ?_⟩
  · rw [put_getD hs, if_neg (h1 x hx)]; exact h.fxd x hx
  · rw [put_getD hs]
    rcases h2 x hx with ⟨e1, e2⟩ | ⟨e1, e2⟩
    · rw [e2]; simp
    · rw [if_neg e2]
      exact h.csd x hx (by simpa [e1] using hf)

theorem Slots.put_other (h : Slots n fx cs f a) (i d : Nat) (v : Value) (hd : d < n) (h1 : ∀ x ∈ fx, x.1 ≠ d) (h2 : ∀ x ∈ cs, x.1 ≠ i ∧ x.2.1 ≠ d) :
    Slots n fx cs (fun j => if j = i then true else f j) (a.put (some d) v) :=
  h.put_const i d v hd h1 fun x hx => .inr (h2 x hx)

theorem Slots.put_none (h : Slots n fx cs f a) (i : Nat) (v : Value) (h2 : ∀ x ∈ cs, x.1 ≠ i) : Slots n fx cs (fun j => if j = i then true else f j) (a.put none v) :=
  ⟨h.defers, h.size, h.fxd, fun x hx hf => h.csd x hx (by simpa [h2 x hx] using hf)⟩
end

section
variable {P : Program} {ops : Array Oper} {Q : Exit → Act → World → Prop} {K : Act → World → Prop} {i : Nat} {o : Oper} {a : Act} {w w' : World} {v : Value}

theorem op_val (ho : ops[i]? = some o) (hg : o.guard = none) (hrun : (execOp a.eval o).run P w = .ok (.value v) w') (hK : K (a.put o.dst v) w') : wpOp P ops Q i K a w := by
  unfold wpOp
  rw [ho]
  have hw : Region.wanted o (yielded ops a.tmps) = true := by simp [Region.wanted, hg]
  simp only [hw, if_true]
  left
  unfold Oper.wp
  rw [hrun]
  exact hK
theorem op_skip (ho : ops[i]? = some o) (hg : o.guard = none) (hrun : (execOp a.eval o).run P w = .ok .skip w') (hK : K (a.put o.dst undef) w') : wpOp P ops Q i K a w := by
  unfold wpOp
  rw [ho]
  have hw : Region.wanted o (yielded ops a.tmps) = true := by simp [Region.wanted, hg]
  simp only [hw, if_true]
  left
  unfold Oper.wp
  rw [hrun]
  exact hK
theorem op_call {fn : FuncId} {args : Array Value} (ho : ops[i]? = some o) (hg : o.guard = none) (hrun : (execOp a.eval o).run P w = .ok (.enter fn args) w')
    (hc : Calls P fn args w' fun e w'' => ∃ v, e = .returned v ∧ K (a.put o.dst v) w'') : wpOp P ops Q i K a w := by
  unfold wpOp
  rw [ho]
  have hw : Region.wanted o (yielded ops a.tmps) = true := by simp [Region.wanted, hg]
  simp only [hw, if_true]
  left
  unfold Oper.wp
  rw [hrun]
  refine hc.mono ?_
  rintro e w'' ⟨v, rfl, h⟩
  exact h
end
end Go.Proofs.YtlmoifeinglaeaaDoor
