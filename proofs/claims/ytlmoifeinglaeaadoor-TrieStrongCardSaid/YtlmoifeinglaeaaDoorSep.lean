/- A small separation logic over the model's heap: assertions on part heaps, and the state of a world relative to the world in which a call began. No program in sight. -/
import Derived.WalkKit
import Derived.Deep.Draws
namespace Go.Proofs.YtlmoifeinglaeaaDoor
open Go.RowKit

/-- A part of a heap. -/
abbrev Hp := Nat → Option Obj
def Hp.nil : Hp := fun _ => none
def Hp.one (b : Nat) (o : Obj) : Hp := fun k => if k = b then some o else none
def Hp.apart (a b : Hp) : Prop := ∀ k, a k = none ∨ b k = none
def Hp.join (a b : Hp) : Hp := fun k => (a k).or (b k)

/-- An assertion on a part of a heap. -/
def SP : Type := Hp → Prop
def SP.star (P Q : SP) : SP := fun h => ∃ a b, Hp.apart a b ∧ h = Hp.join a b ∧ P a ∧ Q b
instance : Mul SP := ⟨SP.star⟩
def SP.emp : SP := fun h => h = Hp.nil
instance : One SP := ⟨SP.emp⟩
def SP.blk (b : Nat) (o : Obj) : SP := fun h => h = Hp.one b o
def SP.ex {α : Type} (P : α → SP) : SP := fun h => ∃ x, P x h
/-- a plain fact -/
def SP.fact (p : Prop) : SP := fun h => p ∧ h = Hp.nil
/-- all the blocks of a world -/
def SP.old (w : World) : SP := fun h => h = fun k => w.heap[k]?

theorem Hp.join_comm {a b : Hp} (h : Hp.apart a b) : Hp.join a b = Hp.join b a := by
  funext k
  unfold Hp.join
  rcases h k with h | h <;> rw [h] <;> simp

theorem Hp.apart_comm {a b : Hp} (h : Hp.apart a b) : Hp.apart b a := fun k => (h k).symm

theorem SP.mul_def (P Q : SP) : P * Q = SP.star P Q := rfl

theorem SP.mul_comm (P Q : SP) : P * Q = Q * P := by
  funext h
  apply propext
  constructor
  · rintro ⟨a, b, hd, rfl, hp, hq⟩
    exact ⟨b, a, Hp.apart_comm hd, Hp.join_comm hd, hq, hp⟩
  · rintro ⟨a, b, hd, rfl, hp, hq⟩
    exact ⟨b, a, Hp.apart_comm hd, Hp.join_comm hd, hq, hp⟩

theorem SP.assoc1 (P Q R : SP) (h : Hp) : (P * Q * R) h → (P * (Q * R)) h := by
  rintro ⟨ab, c, hd, rfl, ⟨a, b, hd', rfl, hp, hq⟩, hr⟩
  refine ⟨a, Hp.join b c, ?_, ?_, hp, b, c, ?_, rfl, hq, hr⟩
  · intro k
    have h1 := hd k
    have h2 := hd' k
    simp only [Hp.join] at h1 ⊢
    cases ha : a k <;> cases hb : b k <;> cases hc : c k <;> simp_all
  · funext k
    simp [Hp.join, Option.or_assoc]
  · intro k
    have h1 := hd k
    simp only [Hp.join] at h1
    cases ha : a k <;> cases hb : b k <;> cases hc : c k <;> simp_all

theorem SP.mul_assoc (P Q R : SP) : P * Q * R = P * (Q * R) := by
  funext h
  apply propext
  constructor
  · exact SP.assoc1 P Q R h
  · intro k
    rw [SP.mul_comm P, SP.mul_comm Q] at k
    have := SP.assoc1 R Q P h k
    rw [SP.mul_comm R, SP.mul_comm Q] at this
    exact this

instance : Std.Associative (α := SP) (· * ·) := ⟨SP.mul_assoc⟩
instance : Std.Commutative (α := SP) (· * ·) := ⟨SP.mul_comm⟩

theorem SP.one_mul (P : SP) : 1 * P = P := by
  funext h
  apply propext
  constructor
  · rintro ⟨a, b, _, rfl, rfl, hp⟩
    have : Hp.join Hp.nil b = b := by funext k; simp [Hp.join, Hp.nil]
    rw [this]; exact hp
  · intro hp
    exact ⟨Hp.nil, h, fun _ => .inl rfl, by funext k; simp [Hp.join, Hp.nil], rfl, hp⟩

theorem SP.mul_one (P : SP) : P * 1 = P := by rw [SP.mul_comm, SP.one_mul]
instance : Std.LawfulIdentity (α := SP) (· * ·) 1 where
  left_id := SP.one_mul
  right_id := SP.mul_one

theorem SP.mul_left_comm (P Q R : SP) : P * (Q * R) = Q * (P * R) := by rw [← SP.mul_assoc, SP.mul_comm P, SP.mul_assoc]

/-- THE STATE: the world W is the world w0 with more blocks; beside the old ones P holds of some of them. -/
structure St (w0 : World) (P : SP) (w : World) : Prop where
  os : w.os = w0.os
  tape : w.tape = w0.tape
  output : w.output = w0.output
  size : w0.heap.size ≤ w.heap.size
  sat : ∃ h, (SP.old w0 * P) h ∧ ∀ k o, h k = some o → w.heap[k]? = some o

section
variable {w0 w : World} {P Q R : SP}

theorem St.refl (w : World) : St w 1 w :=
  ⟨rfl, rfl, rfl, Nat.le_refl _, _, by rw [SP.mul_one]; rfl, fun _ _ h => h⟩

theorem St.eq (h : St w0 P w) (e : P = Q) : St w0 Q w := e ▸ h

theorem St.mono (h : St w0 (P * R) w) (f : ∀ h, P h → Q h) : St w0 (Q * R) w := by
  obtain ⟨h1, h2, h3, h4, hh, ⟨a, b, hd, rfl, ho, c, d, hd', rfl, hp, hr⟩, hs⟩ := h
  exact ⟨h1, h2, h3, h4, _, ⟨a, _, hd, rfl, ho, c, d, hd', rfl, f _ hp, hr⟩, hs⟩

theorem St.drop (h : St w0 (P * R) w) : St w0 R w := by
  obtain ⟨h1, h2, h3, h4, hh, ⟨a, b, hd, rfl, ho, c, d, hd', rfl, hp, hr⟩, hs⟩ := h
  refine ⟨h1, h2, h3, h4, Hp.join a d, ⟨a, d, ?_, rfl, ho, hr⟩, ?_⟩
  · intro k
    have h1 := hd k
    simp only [Hp.join] at h1
    cases ha : a k <;> cases hb : c k <;> cases hc : d k <;> simp_all
  · intro k o hk
    apply hs k o
    have h1 := hd k
    have h2 := hd' k
    simp only [Hp.join] at h1 hk ⊢
    cases ha : a k <;> cases hb : c k <;> cases hc : d k <;> simp_all

theorem St.nil (h : St w0 P w) : St w0 1 w := by
  have : St w0 (P * 1) w := h.eq (SP.mul_one P).symm
  exact this.drop

theorem SP.ex_mul {α : Type} (P : α → SP) (R : SP) : SP.ex P * R = SP.ex fun x => P x * R := by
  funext h
  apply propext
  constructor
  · rintro ⟨a, b, hd, rfl, ⟨x, hx⟩, hr⟩
    exact ⟨x, a, b, hd, rfl, hx, hr⟩
  · rintro ⟨x, a, b, hd, rfl, hx, hr⟩
    exact ⟨a, b, hd, rfl, ⟨x, hx⟩, hr⟩

theorem St.ex_get {α : Type} {P : α → SP} (h : St w0 (SP.ex P * R) w) : ∃ x, St w0 (P x * R) w := by
  obtain ⟨h1, h2, h3, h4, hh, ⟨a, b, hd, rfl, ho, c, d, hd', rfl, ⟨x, hp⟩, hr⟩, hs⟩ := h
  exact ⟨x, h1, h2, h3, h4, _, ⟨a, _, hd, rfl, ho, c, d, hd', rfl, hp, hr⟩, hs⟩

theorem St.ex_put {α : Type} {P : α → SP} (x : α) (h : St w0 (P x * R) w) : St w0 (SP.ex P * R) w := h.mono fun _ hp => ⟨x, hp⟩

theorem SP.fact_mul {p : Prop} {h : Hp} : (SP.fact p * R) h ↔ p ∧ R h := by
  constructor
  · rintro ⟨a, b, _, rfl, ⟨hp, rfl⟩, hr⟩
    have : Hp.join Hp.nil b = b := by funext k; simp [Hp.join, Hp.nil]
    rw [this]; exact ⟨hp, hr⟩
  · rintro ⟨hp, hr⟩
    exact ⟨Hp.nil, h, fun _ => .inl rfl, by funext k; simp [Hp.join, Hp.nil], ⟨hp, rfl⟩, hr⟩

theorem SP.fact_true {p : Prop} (hp : p) : SP.fact p = 1 := by
  funext h
  exact propext ⟨fun hh => hh.2, fun hh => ⟨hp, hh⟩⟩

theorem St.fact_put {p : Prop} (hp : p) (h : St w0 R w) : St w0 (SP.fact p * R) w := by
  rw [SP.fact_true hp, SP.one_mul]; exact h

theorem St.fact_get {p : Prop} (h : St w0 (SP.fact p * R) w) : p ∧ St w0 R w := by
  have h' := h.drop
  obtain ⟨h1, h2, h3, h4, hh, ⟨a, b, hd, rfl, ho, c, d, hd', rfl, hp, hr⟩, hs⟩ := h
  exact ⟨hp.1, h'⟩

/-- what a block is -/
theorem St.blk {b : Nat} {o : Obj} (h : St w0 (SP.blk b o * R) w) : w.heap[b]? = some o := by
  obtain ⟨h1, h2, h3, h4, hh, ⟨a, _, hd, rfl, ho, c, d, hd', rfl, hp, hr⟩, hs⟩ := h
  apply hs
  have h1 := hd b
  cases hp
  simp only [Hp.join, Hp.one] at h1 ⊢
  simp at h1 ⊢
  rw [h1]; simp

theorem St.lt {b : Nat} {o : Obj} (h : St w0 (SP.blk b o * R) w) : b < w.heap.size := (Array.getElem?_eq_some_iff.1 h.blk).1

theorem St.ge {b : Nat} {o : Obj} (h : St w0 (SP.blk b o * R) w) : w0.heap.size ≤ b := by
  obtain ⟨h1, h2, h3, h4, hh, ⟨a, _, hd, rfl, ho, c, d, hd', rfl, hp, hr⟩, hs⟩ := h
  have h1 := hd b
  cases hp
  cases ho
  simp only [Hp.join, Hp.one] at h1
  simp at h1
  exact h1

theorem St.ne {b c : Nat} {o u : Obj} (h : St w0 (SP.blk b o * (SP.blk c u * R)) w) : b ≠ c := by
  obtain ⟨h1, h2, h3, h4, hh, ⟨a, _, hd, rfl, ho, x, d, hd', rfl, hp, y, e, hd'', rfl, hq, hr⟩, hs⟩ := h
  cases hp
  cases hq
  rintro rfl
  have := hd' b
  simp [Hp.join, Hp.one] at this

/-- an old block -/
theorem St.old (h : St w0 P w) {k : Nat} (hk : k < w0.heap.size) : w.heap[k]? = w0.heap[k]? := by
  obtain ⟨h1, h2, h3, h4, hh, ⟨a, _, hd, rfl, ho, hp⟩, hs⟩ := h
  cases ho
  rw [hs k w0.heap[k] (by simp [Hp.join, hk]), Array.getElem?_eq_getElem hk]

theorem St.below (h : St w0 P w) : Below w0.heap.size w0 w := ⟨h.os, h.tape, h.output, h.size, fun _ hk => h.old hk⟩

/-- From one world to another: what of the part heaps is named stays. -/
theorem St.step {w' : World} (h : St w0 P w) (ho : w'.os = w.os) (ht : w'.tape = w.tape) (hu : w'.output = w.output) (hz : w.heap.size ≤ w'.heap.size)
    (hb : ∀ k, k < w.heap.size → w'.heap[k]? = w.heap[k]?) : St w0 P w' := by
  obtain ⟨h1, h2, h3, h4, hh, hp, hs⟩ := h
  refine ⟨ho.trans h1, ht.trans h2, hu.trans h3, Nat.le_trans h4 hz, hh, hp, fun k o hk => ?_⟩
  have := hs k o hk
  rw [hb k (Array.getElem?_eq_some_iff.1 this).1]
  exact this

theorem St.drew (h : St w0 P w) : St w0 P w.drew := ⟨h.os, h.tape, h.output, h.size, h.sat⟩
theorem St.drewN (h : St w0 P w) (n : Nat) : St w0 P (w.drewN n) := ⟨h.os, h.tape, h.output, h.size, h.sat⟩

/-- one block turned, perhaps new blocks beside it -/
theorem St.turn {w' : World} {b : Nat} {o o' : Obj} (h : St w0 (SP.blk b o * R) w) (ho : w'.os = w.os) (ht : w'.tape = w.tape) (hu : w'.output = w.output) (hz : w.heap.size ≤ w'.heap.size)
    (hb : ∀ k, k < w.heap.size → k ≠ b → w'.heap[k]? = w.heap[k]?) (hn : w'.heap[b]? = some o') : St w0 (SP.blk b o' * R) w' := by
  obtain ⟨h1, h2, h3, h4, hh, ⟨a, _, hd, rfl, hold, c, d, hd', rfl, hp, hr⟩, hs⟩ := h
  cases hp
  refine ⟨ho.trans h1, ht.trans h2, hu.trans h3, Nat.le_trans h4 hz, _, ⟨a, _, ?_, rfl, hold, Hp.one b o', d, ?_, rfl, rfl, hr⟩, ?_⟩
  · intro k
    have h1 := hd k
    simp only [Hp.join, Hp.one] at h1 ⊢
    by_cases e : k = b
    · subst e; simp at h1 ⊢; exact h1
    · simpa [e] using h1
  · intro k
    have h1 := hd' k
    simp only [Hp.one] at h1 ⊢
    by_cases e : k = b
    · subst e; simp at h1 ⊢; exact h1
    · simp [e]
  · intro k x hk
    have g1 := hd k
    have g2 := hd' k
    have g3 := hs k
    simp only [Hp.join, Hp.one] at g1 g2 g3 hk
    by_cases e : k = b
    · subst e
      simp at g1 hk
      rw [g1] at hk
      simp at hk
      rw [hn, hk]
    · simp [e] at g1 g2 g3 hk
      have := g3 x hk
      rw [hb k (Array.getElem?_eq_some_iff.1 this).1 e]
      exact this

theorem St.setCell {b i : Nat} {c : Array Value} {E : TypeId} {fz : Nat × Nat} (h : St w0 (SP.blk b (.cells c E fz) * R) w) (v : Value) :
    St w0 (SP.blk b (.cells (c.setIfInBounds i v) E fz) * R) (w.setCell ⟨b, i, none⟩ v) := by
  refine h.turn rfl rfl rfl (by simp [World.setCell]) (fun k hk e => Below.heap_setCell _ _ _ _ e) ?_
  have hb := h.blk
  show (w.heap.modify b _)[b]? = _
  rw [Array.getElem?_modify, if_pos rfl, hb]
  simp

theorem St.alloc (h : St w0 R w) (o : Obj) : St w0 (SP.blk w.heap.size o * R) (w.alloc o) := by
  obtain ⟨h1, h2, h3, h4, hh, ⟨a, d, hd, rfl, hold, hr⟩, hs⟩ := h
  have hnew : Hp.join a d w.heap.size = none := by
    cases e : Hp.join a d w.heap.size with
    | none => rfl
    | some x => have := (Array.getElem?_eq_some_iff.1 (hs _ _ e)).1; omega
  refine ⟨h1, h2, h3, by simp; omega, Hp.join a (Hp.join (Hp.one w.heap.size o) d), ⟨a, _, ?_, rfl, hold, _, d, ?_, rfl, rfl, hr⟩, ?_⟩
  · intro k
    have g := hd k
    simp only [Hp.join, Hp.one] at hnew ⊢
    by_cases e : k = w.heap.size
    · subst e; cases ha : a w.heap.size <;> simp_all
    · simpa [e] using g
  · intro k
    simp only [Hp.join, Hp.one] at hnew ⊢
    by_cases e : k = w.heap.size
    · subst e; cases ha : a w.heap.size <;> cases hb : d w.heap.size <;> simp_all
    · simp [e]
  · intro k x hk
    simp only [Hp.join, Hp.one] at hnew hk
    by_cases e : k = w.heap.size
    · subst e
      have : a w.heap.size = none := by cases ha : a w.heap.size <;> simp_all
      rw [this] at hk
      simp at hk
      rw [← hk]
      show (w.heap.push o)[w.heap.size]? = _
      simp
    · have := hs k x (by simpa [Hp.join, e] using hk)
      have hl := (Array.getElem?_eq_some_iff.1 this).1
      rw [Below.heap_alloc w o k hl]
      exact this

/-- a cell of a block -/
theorem St.cell {b : Nat} {c : Array Value} {E : TypeId} {fz : Nat × Nat} (h : St w0 (SP.blk b (.cells c E fz) * R) w) (i : Nat) : w.cell? ⟨b, i, none⟩ = c[i]? := by
  simp [World.cell?, h.blk]

theorem St.free {b : Nat} {c : Array Value} {E : TypeId} (h : St w0 (SP.blk b (.cells c E (0, 0)) * R) w) (i : Nat) : w.frozen? ⟨b, i, none⟩ = false := by
  simp [World.frozen?, h.blk]

/-- The world in which a call began, with all that it holds, as the base of another state. -/
theorem St.rebase {w1 : World} (h : St w0 R w) (k : St w P w1) : St w0 (P * R) w1 := by
  obtain ⟨h1, h2, h3, h4, hh, ⟨a, d, hd, rfl, hold, hr⟩, hs⟩ := h
  obtain ⟨k1, k2, k3, k4, kk, ⟨x, y, kd, rfl, kold, kr⟩, ks⟩ := k
  cases kold
  have key : ∀ k o, Hp.join a d k = some o → y k = none := by
    intro k o hk
    have := hs k o hk
    have g := kd k
    simp only [this] at g
    simpa using g
  refine ⟨k1.trans h1, k2.trans h2, k3.trans h3, Nat.le_trans h4 k4, Hp.join a (Hp.join y d), ⟨a, _, ?_, rfl, hold, y, d, ?_, rfl, kr, hr⟩, ?_⟩
  · intro k
    have g := hd k
    have g' := key k
    simp only [Hp.join] at g' ⊢
    cases ha : a k <;> cases hb : y k <;> cases hc : d k <;> simp_all
  · intro k
    have g' := key k
    simp only [Hp.join] at g' ⊢
    cases ha : a k <;> cases hb : y k <;> cases hc : d k <;> simp_all
  · intro k o hk
    have g' := key k
    simp only [Hp.join] at g' hk
    cases hb : y k with
    | some z =>
      have : Hp.join (fun k => w.heap[k]?) y k = some z := by
        have g := kd k
        simp only [Hp.join]
        rw [hb] at g ⊢
        simp at g
        simp [g]
      rw [ks k z this]
      have ha : Hp.join a d k = none := by
        cases e : Hp.join a d k with
        | none => rfl
        | some q => have := key k q e; simp_all
      simp only [Hp.join] at ha
      cases ha' : a k <;> cases hd' : d k <;> simp_all
    | none =>
      have h' : Hp.join a d k = some o := by simp only [Hp.join]; simpa [hb] using hk
      have := hs k o h'
      exact ks k o (by simp [Hp.join, this])

end

#print axioms St.rebase
#print axioms St.alloc
end Go.Proofs.YtlmoifeinglaeaaDoor
