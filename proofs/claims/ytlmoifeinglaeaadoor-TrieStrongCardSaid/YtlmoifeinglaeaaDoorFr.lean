/- A frame whose slots are a function's values, and laws for loops and cuts that speak of such frames: for functions with hundreds of slots. No program in sight. -/
import Derived.WalkKit
import Derived.Deep.LoopGhost
namespace Go.Proofs.YtlmoifeinglaeaaDoor
open Go.RowKit

def Fr (n : Nat) (f : Nat → Value) : Act := ⟨((List.range n).map f).toArray, []⟩

theorem fr_of (n : Nat) (l : List Value) (h : l.length = n) : (⟨l.toArray, []⟩ : Act) = Fr n (fun i => l.getD i undef) := by
  subst h
  unfold Fr
  congr 2
  apply List.ext_getElem (by simp)
  intro i h1 h2
  simp [h1]

/-- The slots of a frame. -/
def sl (a : Act) (i : Nat) : Value := a.tmps.toList.getD i undef

theorem sl_fr {n : Nat} {f : Nat → Value} {i : Nat} (h : i < n) : sl (Fr n f) i = f i := by
  simp [sl, Fr, h]

/-- A frame of so many slots, with nothing put off, of whose slots R holds. -/
def Frm (n : Nat) (R : (Nat → Value) → World → Prop) (a : Act) (w : World) : Prop := ∃ f, a = Fr n f ∧ R f w

theorem Frm.mk {n : Nat} {R : (Nat → Value) → World → Prop} {w : World} (l : List Value) (h : l.length = n) (hR : R (fun i => l.getD i undef) w) : Frm n R ⟨l.toArray, []⟩ w :=
  ⟨_, fr_of n l h, hR⟩

section
variable {P : Program} {a : Act} {w : World} {Q : Exit → Act → World → Prop}

/-- The loop's law: the relation bears a number of rounds that may be to come. -/
theorem wp_loop_fr {c : Code} (n : Nat) (R : Nat → (Nat → Value) → World → Prop) (g : Nat) (h0 : Frm n (R g) a w)
    (round : ∀ g f w, R g f w → ∀ K : Act → World → Prop, Hid (∀ g' a' w', g' < g → Frm n (R g') a' w' → K a' w') → c.wp P (Exit.then K Q) (Fr n f) w) : (Code.loop c).wp P Q a w := by
  refine wp_loop_ghost (fun g a w => Frm n (R g) a w) g h0 ?_
  rintro g a w ⟨f, rfl, hf⟩
  exact round g f w hf _ (fun g' _ _ hg h => ⟨g', hg, h⟩)

theorem wp_cut_fr {s : Code} {K : Act → World → Prop} (n : Nat) (R : (Nat → Value) → World → Prop)
    (first : ∀ K' : Act → World → Prop, Hid (∀ a' w', Frm n R a' w' → K' a' w') → s.wp P (Exit.then K' Q) a w)
    (rest : ∀ f w', R f w' → K (Fr n f) w') : s.wp P (Exit.then K Q) a w := by
  refine wp_mono (first (Frm n R) (fun _ _ h => h)) ?_
  intro e a' w' h
  cases e with
  | normal => obtain ⟨f, rfl, hf⟩ := h; exact rest f w' hf
  | exit id => exact h
  | goto l => exact h
  | ret => exact h
  | panic ch => exact h
  | outgrown => exact h
end

def findBlock (n : Nat) : Code → Option Code
  | .block k c => if k = n then some (.block k c) else findBlock n c
  | .loop c => findBlock n c
  | .seq a b => match findBlock n a with
    | some c => some c
    | none => findBlock n b
  | .scope c => findBlock n c
  | .cond _ a b => match findBlock n a with
    | some c => some c
    | none => findBlock n b
  | _ => none
end Go.Proofs.YtlmoifeinglaeaaDoor
