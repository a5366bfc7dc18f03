/- Posts for a piece of code whose ways all end alike (a region that draws its order). No program in sight. -/
import Derived.WalkKit
namespace Go.Proofs.YtlmoifeinglaeaaDoor
open Go.RowKit

/-- The post of a piece of code that always ends in one frame and one world. -/
def To (a1 : Act) (w1 : World) : Exit → Act → World → Prop
  | .normal, a, w => a = a1 ∧ w = w1
  | _, _, _ => False
theorem wp_to {P : Program} {c : Code} {Q : Exit → Act → World → Prop} {a : Act} {w : World} (f : Act → Act) (w1 : World)
    (h : c.wp P (To (f a) w1) a w) (h2 : Q .normal (f a) w1) : c.wp P Q a w := by
  refine Code.wp_mono ?_ h
  intro e a' w' he
  cases e with
  | normal => obtain ⟨rfl, rfl⟩ := (he : a' = f a ∧ w' = w1); exact h2
  | _ => exact (he : False).elim

/-- The post of a piece of code that always ends so. -/
def ToP (F : Act → World → Prop) : Exit → Act → World → Prop
  | .normal, a, w => F a w
  | _, _, _ => False
theorem wp_toP {P : Program} {c : Code} {Q : Exit → Act → World → Prop} {a : Act} {w : World} (F : Act → Act → World → Prop)
    (h : c.wp P (ToP (F a)) a w) (h2 : ∀ a' w', F a a' w' → Q .normal a' w') : c.wp P Q a w := by
  refine Code.wp_mono ?_ h
  intro e a' w' he
  cases e with
  | normal => exact h2 _ _ he
  | _ => exact (he : False).elim

end Go.Proofs.YtlmoifeinglaeaaDoor
