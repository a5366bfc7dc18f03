/- A region that draws its order, by an invariant: each operation is shown once, from any state in which what it waits for is done. No program in sight. -/
import Derived.WalkKit
import Derived.Orders
namespace Go.Proofs.YtlmoifeinglaeaaDoor
open Go.RowKit

section
variable {P : Program} {ops : Array Oper} {Q : Exit → Act → World → Prop} {md : Region.Mode}

/-- How many operations are still to come. -/
def left (l : Array Bool) : Nat := (l.toList.filter (! ·)).length

theorem left_set (l : List Bool) (i : Nat) (h : l[i]? = some false) : ((l.set i true).filter (! ·)).length + 1 = (l.filter (! ·)).length := by
  induction l generalizing i with
  | nil => simp at h
  | cons x l ih =>
    cases i with
    | zero => simp at h; subst h; simp
    | succ i =>
      have := ih i (by simpa using h)
      cases x <;> simp <;> omega

theorem wpAny_inv (Inv : (Nat → Bool) → Act → World → Prop)
    (hstep : ∀ f a w i o, Inv f a w → ops[i]? = some o → f i = false → (∀ e ∈ o.after, Region.binds md e = true → f e.on = true) → wpOp P ops Q i (Inv fun j => if j = i then true else f j) a w)
    (hacyc : ∀ (i : Nat) (o : Oper), ops[i]? = some o → ∀ e ∈ o.after, e.on < i)
    (hfin : ∀ f a w, Inv f a w → (∀ i, i < ops.size → f i = true) → Q .normal a w) :
    ∀ (fuel : Nat) (listed : Array Bool) (a : Act) (w : World), listed.size = ops.size → left listed ≤ fuel → Inv (fun j => listed.getD j false) a w → wpAny P md ops Q fuel listed a w := by
  have done : ∀ (listed : Array Bool) (a : Act) (w : World), listed.size = ops.size → Inv (fun j => listed.getD j false) a w → Region.ready md ops listed = [] → Q .normal a w := by
    intro listed a w hsz hI hr
    refine hfin _ _ _ hI ?_
    have key : ∀ n, ∀ i, i < n → i < ops.size → listed.getD i false = true := by
      intro n
      induction n with
      | zero => intro i h; omega
      | succ n ih =>
        intro i hi hlt
        by_cases e : i < n
        · exact ih i e hlt
        · obtain rfl : i = n := by omega
          cases hb : listed.getD i false with
          | true => rfl
          | false =>
            exfalso
            have hm : i ∈ Region.ready md ops listed := by
              unfold Region.ready
              rw [List.mem_filter]
              refine ⟨by simpa using hlt, ?_⟩
              have h1 : listed.getD i true = false := by
                have : i < listed.size := by omega
                simp [Array.getD, this] at hb ⊢
                exact hb
              have h2 : ops[i]? = some ops[i] := Array.getElem?_eq_getElem hlt
              rw [h1, h2]
              simp only [Bool.not_false, Bool.true_and, Option.map_some, Option.getD_some, Array.all_eq_true']
              intro e he
              have := hacyc i _ h2 e he
              rw [ih e.on this (by omega)]
              simp
            rw [hr] at hm
            simp at hm
    exact fun i hi => key (i + 1) i (by omega) hi
  intro fuel
  induction fuel with
  | zero =>
    intro listed a w hsz hle hI
    have hr : Region.ready md ops listed = [] := by
      unfold Region.ready
      rw [List.filter_eq_nil_iff]
      intro i hi
      have hlt : i < listed.size := by rw [hsz]; simpa using hi
      have hl : listed.toList.filter (! ·) = [] := List.eq_nil_of_length_eq_zero (by unfold left at hle; omega)
      rw [List.filter_eq_nil_iff] at hl
      have := hl listed[i] (by simp)
      simp at this
      simp [Array.getD, hlt, this]
    exact ⟨hr, done listed a w hsz hI hr⟩
  | succ fuel ih =>
    intro listed a w hsz hle hI
    refine ⟨fun hr => done listed a w hsz hI hr, fun i hi => ?_⟩
    unfold Region.ready at hi
    rw [List.mem_filter] at hi
    obtain ⟨hi1, hi2⟩ := hi
    have hlt : i < ops.size := by simpa using hi1
    have h2 : ops[i]? = some ops[i] := Array.getElem?_eq_getElem hlt
    rw [h2] at hi2
    simp only [Option.map_some, Option.getD_some, Bool.and_eq_true, Bool.not_eq_true', Array.all_eq_true'] at hi2
    have hls : i < listed.size := by omega
    have hb : listed[i] = false := by have := hi2.1; simpa [Array.getD, hls] using this
    refine wpOp_mono (K := Inv fun j => if j = i then true else listed.getD j false) (fun a w h => ?_) (hstep _ a w i ops[i] hI h2 (by simp [Array.getD, hls, hb]) fun e he hbd => ?_)
    · refine ih _ _ _ (by simpa using hsz) ?_ ?_
      · have := left_set listed.toList i (by simp [hls, hb])
        unfold left at hle ⊢
        rw [Array.toList_setIfInBounds]
        omega
      · have e : (fun j => (listed.setIfInBounds i true).getD j false) = fun j => if j = i then true else listed.getD j false := by
          funext j
          by_cases e : j = i
          · subst e; simp [Array.getD, hls]
          · have e' : ¬ i = j := fun h => e h.symm
            rw [if_neg e, Array.getD_eq_getD_getElem?, Array.getD_eq_getD_getElem?, Array.getElem?_setIfInBounds_ne e']
        rw [e]; exact h
    · have := hi2.2 e he
      simp only [hbd, Bool.not_true, Bool.false_or] at this
      exact this

theorem wp_region_inv {id : Nat} {a : Act} {w : World} (hm : P.follows .mixedOrders = true) (Inv : (Nat → Bool) → Act → World → Prop)
    (h0 : Inv (fun _ => false) a w.drew)
    (hstep : ∀ f a w i o, Inv f a w → ops[i]? = some o → f i = false → (∀ e ∈ o.after, Region.binds .any e = true → f e.on = true) → wpOp P ops Q i (Inv fun j => if j = i then true else f j) a w)
    (hacyc : ∀ (i : Nat) (o : Oper), ops[i]? = some o → ∀ e ∈ o.after, e.on < i)
    (hfin : ∀ f a w, Inv f a w → (∀ i, i < ops.size → f i = true) → Q .normal a w) : (Code.region id ops true).wp P Q a w := by
  refine wp_region_any hm (wpAny_inv Inv hstep hacyc hfin _ _ _ _ (by simp) ?_ ?_)
  · unfold left; simp
  · have e : (fun j => (Array.replicate ops.size false).getD j false) = fun _ => false := by
      funext j
      by_cases h : j < ops.size <;> simp [Array.getD, h]
    rw [e]; exact h0

/-- What an operation waits for stands ahead of it. -/
def acyc (ops : Array Oper) : Bool := (List.range ops.size).all fun i => ((ops[i]?).map fun o => o.after.all fun e => decide (e.on < i)).getD true
theorem acyc_spec (h : acyc ops = true) : ∀ (i : Nat) (o : Oper), ops[i]? = some o → ∀ e ∈ o.after, e.on < i := by
  intro i o ho e he
  unfold acyc at h
  rw [List.all_eq_true] at h
  have hi : i < ops.size := (Array.getElem?_eq_some_iff.1 ho).1
  have := h i (by simpa using hi)
  rw [ho] at this
  simp only [Option.map_some, Option.getD_some, Array.all_eq_true'] at this
  simpa using this e he
end
#print axioms wp_region_inv
end Go.Proofs.YtlmoifeinglaeaaDoor
