/- NetRuns: the arms of the switch: what they are given. -/
import Derived.Test.YtdgohegjpehofaaNetFr
import Derived.Test.YtdgohegjpehofaaNetLawC
namespace Go.Proofs.Ytdgohegjpehofaa
open Go.RowKit

noncomputable def blk2 : Code := (Try.f3.body.bind (findBlock 2)).getD .skip

def callB (cb : Nat) (K I : Int) (D : ByteArray) : SP := SP.blk cb (.cells #[.int .i64 K, .int .i64 I, .string D] 30) * 1

/-- The connection that a call names. -/
def XRel (l : Lw) (i : Int) (x : Value) : Prop := (x = .pointer none ∧ (i < 0 ∨ (l.ms.length : Int) ≤ i)) ∨ ∃ (k : Nat) (h : k < l.ms.length), i = k ∧ x = ptr (l.ms[k].blk)

section
variable {W w : World} {a : Nat} {s : Ns} {l : Lw} {cb : Nat} {K I : Int} {D : ByteArray}

theorem call_cells {A B : SP} (h : St W (A * (B * callB cb K I D)) w) :
    w.cell? ⟨cb, 0, none⟩ = some (.int .i64 K) ∧ w.cell? ⟨cb, 1, none⟩ = some (.int .i64 I) ∧ w.cell? ⟨cb, 2, none⟩ = some (.string D) := by
  have g := h.drop.drop
  unfold callB at g
  exact ⟨by rw [g.cell]; rfl, by rw [g.cell]; rfl, by rw [g.cell]; rfl⟩

/-- The law's part in front. -/
theorem St.front {A B C : SP} (h : St W (A * (B * C)) w) : St W (B * (A * C)) w := h.eq (SP.mul_left_comm _ _ _)

/-- The call's own variable is left behind. -/
theorem St.leave {A B : SP} (h : St W (A * (B * callB cb K I D)) w) : St W (A * (B * 1)) w := by
  have g : St W (callB cb K I D * (A * B)) w := h.eq (by ac_rfl)
  exact g.drop.eq (by rw [SP.mul_one])
end

/-- What an arm is given. -/
structure ArmH (W : World) (a k : Nat) (s : Ns) (l : Lw) (cb : Nat) (K I : Int) (D : ByteArray) (x v0 v23 v24 v25 : Value) (q : Int) (t : List Value) (w : World) : Prop where
  len : t.length = 403
  goes : Goes (fun i => t.getD i undef) a s l v0 v23 v24 v25
  h7 : t.getD 7 undef = ptr cb
  h8 : t.getD 8 undef = x
  h52 : t.getD 52 undef = .int .i64 q
  st : St W (net a s * (law l * callB cb K I D)) w
  syn : Syn k s l
  dsz : D.size ≤ 200
  hk : k ≤ 150

/-- What an arm leaves. -/
def ArmK (W : World) (a k : Nat) (v0 v23 v24 v25 : Value) (Kc : Act → World → Prop) : Prop :=
  ∀ f w' s' l', Goes f a s' l' v0 v23 v24 v25 → St W (net a s' * (law l' * 1)) w' → Syn (k + 1) s' l' → Kc (Fr 403 f) w'

/-- An arm's frame with its slots. -/
theorem ArmH.frame {W : World} {a k : Nat} {s : Ns} {l : Lw} {cb : Nat} {K I : Int} {D : ByteArray} {x v0 v23 v24 v25 : Value} {q : Int} {t : List Value} {w : World} (h : ArmH W a k s l cb K I D x v0 v23 v24 v25 q t w) :
    ∃ f, (⟨t.toArray, []⟩ : Act) = Fr 403 f ∧ Goes f a s l v0 v23 v24 v25 ∧ f 7 = ptr cb ∧ f 8 = x ∧ f 52 = .int .i64 q :=
  ⟨_, fr_of 403 t h.len, h.goes, h.h7, h.h8, h.h52⟩

/-- What an arm shows. -/
def Arm (q : Int) (X : Lw → Int → Value → Prop) : Prop :=
  ∀ (W : World) (a k : Nat) (s : Ns) (l : Lw) (cb : Nat) (K I : Int) (D : ByteArray) (x v0 v23 v24 v25 : Value) (t : List Value) (w : World) (Kc : Act → World → Prop) (Q : Exit → Act → World → Prop),
    ArmH W a k s l cb K I D x v0 v23 v24 v25 q t w → X l I x → Hid (ArmK W a k v0 v23 v24 v25 Kc) → Code.wp Try.prog blk2 (Exit.then Kc Q) ⟨t.toArray, []⟩ w

/-- No such connection. -/
def XNo (l : Lw) (i : Int) (x : Value) : Prop := x = .pointer none ∧ (i < 0 ∨ (l.ms.length : Int) ≤ i)
def XYes (l : Lw) (i : Int) (x : Value) : Prop := ∃ (j : Nat) (h : j < l.ms.length), i = j ∧ x = ptr (l.ms[j].blk)

theorem at?_no {s : Ns} {l : Lw} {k : Nat} (h : Syn k s l) {i : Int} (hi : i < 0 ∨ (l.ms.length : Int) ≤ i) : s.at? i = none := by
  have := h.len
  unfold Ns.at?
  split
  · rw [List.getElem?_eq_none_iff]; omega
  · rfl

/-- A post that is met at the normal exit alone. -/
theorem wp_normal {P : Program} {c : Code} {J : Act → World → Prop} {Kc : Act → World → Prop} {Q : Exit → Act → World → Prop} {a : Act} {w : World} (h : c.wp P (Exit.then J fun _ _ _ => False) a w) (hJ : ∀ a' w', J a' w' → Kc a' w') : c.wp P (Exit.then Kc Q) a w := by
  refine wp_mono h ?_
  intro e a' w' h
  cases e with
  | normal => exact hJ _ _ h
  | exit id => exact h.elim
  | goto l => exact h.elim
  | ret => exact h.elim
  | panic ch => exact h.elim
  | outgrown => exact h.elim
end Go.Proofs.Ytdgohegjpehofaa
