/- append of nothing to nothing, as a step of a region that draws its order. No program in sight. -/
import Derived.Test.YtlmoifeinglaeaaDoorRd
namespace Go.Proofs.YtlmoifeinglaeaaDoor
open Go.RowKit
section
variable {w : World} {E : TypeId}

/-- append of nothing to nothing. -/
theorem step_append_none {Pr : Program} {ops : Array Oper} {o : Oper} {act : Act} {K : Act → World → Prop} {Q : Exit → Act → World → Prop} {el : Prop}
    (hg : o.guard = none) (s x : Operand) (t : TypeId) (hop : o.op = Op.call { callee := Callee.builtin Builtin.append, args := #[s, x], argTypes := #[t, t] })
    (i : TypeInfo) (ht : Pr.underlying t = some (.slice E)) (hi : Pr.info? E = some i) (hs : act.eval s = .slice none 0 0) (hx : act.eval x = .slice none 0 0)
    (hK : K (act.put o.dst (.slice none 0 0)) w) :
    if Region.wanted o (yielded ops act.tmps) = true then Oper.wp Pr o act w K Q else el := by
  have hw : Region.wanted o (yielded ops act.tmps) = true := by simp [Region.wanted, hg]
  rw [if_pos hw]
  unfold Oper.wp
  have hrun : (Builtin.append_ #[t, t] o.type #[.slice none 0 0, .slice none 0 0]).run Pr w = .ok (.slice none 0 0) w := by
    simp [Builtin.append_, run_underlying ht, sizeOf, typeInfo, hi, Builtin.lenOf, Builtin.firstCells]
  simp [execOp, hop, resolve, invoke, builtin, hs, hx, hrun, Result.andThen]
  exact hK
end
end Go.Proofs.YtlmoifeinglaeaaDoor
