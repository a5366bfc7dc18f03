/- Trees of routes (layer 8): what is found by a tree is what is found by going through the list. No program in sight. -/
import Derived.Test.YtlmoifeinglaeaaDoorDen
namespace Go.Proofs.YtlmoifeinglaeaaDoor

/-- Has a pattern (its segments) this path? -/
def hasL : List (List UInt8) → List (List UInt8) → Bool
  | [], l => l.isEmpty
  | _ :: _, [] => false
  | x :: p, y :: l => if kindL x = 2 then true else if kindL x = 0 then decide (x = y) && hasL p l else !y.isEmpty && hasL p l

/-- None is empty; what stands for all that follow is the last one. -/
def SegsOk : List (List UInt8) → Prop
  | [] => True
  | x :: p => x ≠ [] ∧ (kindL x = 2 → p = []) ∧ SegsOk p

def rk : Sg → Nat
  | .w _ => 0
  | .p => 1
  | .r => 2
/-- The stronger one of two. -/
def strS : List Sg → List Sg → Bool
  | a :: p, b :: q => if rk a = rk b then strS p q else decide (rk a < rk b)
  | _, _ => false
def strL : List (List UInt8) → List (List UInt8) → Bool
  | x :: p, y :: q => if kindL x = kindL y then strL p q else decide (kindL x < kindL y)
  | _, _ => false

theorem has_norm {p : List (List UInt8)} (h : SegsOk p) (l : List (List UInt8)) : hasL p l = true ↔ norm p ∈ cands l := by
  induction p generalizing l with
  | nil => cases l <;> simp [hasL, norm, cands]
  | cons x p ih =>
    obtain ⟨h1, h2, h3⟩ := h
    cases l with
    | nil => 
      have : norm (x :: p) ≠ [] := by unfold norm; split; · simp
                                      · split <;> simp
      simp [hasL, cands, this]
    | cons y l =>
      have ih := ih h3 l
      unfold hasL norm cands
      by_cases k0 : kindL x = 0
      · simp only [k0, if_true]
        by_cases hy : y = []
        · subst hy
          simp [h1]
        · simp [hy, ih]
          constructor
          · rintro ⟨rfl, h⟩; exact ⟨h, rfl⟩
          · rintro ⟨h, rfl⟩; exact ⟨rfl, h⟩
      · rcases kindL_cases x with k | k | k
        · exact absurd k k0
        · by_cases hy : y = []
          · subst hy; simp [k]
          · simp [k, hy, ih]
        · simp [k]

theorem cands_sorted (l : List (List UInt8)) : (cands l).Pairwise fun a b => strS a b = true := by
  induction l with
  | nil => simp [cands]
  | cons x l ih =>
    unfold cands
    by_cases hx : x = []
    · simp [hx]
    · simp only [hx, if_false]
      rw [List.pairwise_append, List.pairwise_append]
      refine ⟨⟨?_, ?_, ?_⟩, by simp, ?_⟩
      · rw [List.pairwise_map]; simpa [strS] using ih
      · rw [List.pairwise_map]; simpa [strS] using ih
      · intro a ha b hb
        simp only [List.mem_map] at ha hb
        obtain ⟨a, _, rfl⟩ := ha
        obtain ⟨b, _, rfl⟩ := hb
        simp [strS, rk]
      · intro a ha b hb
        simp only [List.mem_append, List.mem_map, List.mem_singleton] at ha hb
        subst hb
        rcases ha with ⟨a, _, rfl⟩ | ⟨a, _, rfl⟩ <;> simp [strS, rk]

theorem strS_irr (a : List Sg) : strS a a = false := by induction a with | nil => rfl | cons x a ih => simpa [strS] using ih
theorem strS_trans {a b c : List Sg} (h1 : strS a b = true) (h2 : strS b c = true) : strS a c = true := by
  induction a generalizing b c with
  | nil => simp [strS] at h1
  | cons x a ih =>
    cases b with
    | nil => simp [strS] at h1
    | cons y b =>
      cases c with
      | nil => simp [strS] at h2
      | cons z c =>
        simp only [strS] at h1 h2 ⊢
        by_cases e1 : rk x = rk y
        · rw [if_pos e1] at h1
          by_cases e2 : rk y = rk z
          · rw [if_pos e2] at h2
            rw [if_pos (e1.trans e2)]
            exact ih h1 h2
          · rw [if_neg e2] at h2
            rw [if_neg (by omega), e1]; exact h2
        · rw [if_neg e1] at h1
          simp at h1
          by_cases e2 : rk y = rk z
          · rw [if_neg (by omega)]; simp; omega
          · rw [if_neg e2] at h2
            simp at h2
            rw [if_neg (by omega)]; simp; omega
theorem strS_asymm {a b : List Sg} (h1 : strS a b = true) (h2 : strS b a = true) : False := by
  have := strS_trans h1 h2
  rw [strS_irr] at this; cases this

theorem pairwise_total {α : Type} {R : α → α → Prop} {l : List α} (h : l.Pairwise R) {a b : α} (ha : a ∈ l) (hb : b ∈ l) : a = b ∨ R a b ∨ R b a := by
  induction l with
  | nil => simp at ha
  | cons x l ih =>
    rw [List.pairwise_cons] at h
    simp at ha hb
    rcases ha with rfl | ha <;> rcases hb with rfl | hb
    · exact .inl rfl
    · exact .inr (.inl (h.1 _ hb))
    · exact .inr (.inr (h.1 _ ha))
    · exact ih h.2 ha hb

theorem rk_norm (x : List UInt8) (p : List (List UInt8)) : ∃ a q, norm (x :: p) = a :: q ∧ rk a = kindL x ∧ (kindL x ≠ 2 → q = norm p) ∧ (kindL x = 2 → q = []) := by
  rw [norm]
  rcases kindL_cases x with k | k | k
  · exact ⟨.w x, norm p, by simp [k], by simp [rk, k], fun _ => Eq.refl _, fun h => by omega⟩
  · exact ⟨.p, norm p, by simp [k], by simp [rk, k], fun _ => Eq.refl _, fun h => by omega⟩
  · exact ⟨.r, [], by simp [k], by simp [rk, k], fun h => absurd k h, fun _ => rfl⟩

theorem strL_norm {p q : List (List UInt8)} (hp : SegsOk p) (hq : SegsOk q) : strL p q = strS (norm p) (norm q) := by
  induction p generalizing q with
  | nil => cases q <;> simp [strL, norm, strS]
  | cons x p ih =>
    cases q with
    | nil => obtain ⟨a, r, e, _⟩ := rk_norm x p; rw [e]; simp [strL, norm, strS]
    | cons y q =>
      obtain ⟨a, r, e, hk, h1, h2⟩ := rk_norm x p
      obtain ⟨a', r', e', hk', h1', h2'⟩ := rk_norm y q
      rw [e, e']
      simp only [strL, strS, hk, hk']
      by_cases he : kindL x = kindL y
      · rw [if_pos he, if_pos he]
        by_cases k2 : kindL x = 2
        · rw [h2 k2, h2' (he ▸ k2), hp.2.1 k2]; simp [strL, strS]
        · rw [h1 k2, h1' (he ▸ k2)]; exact ih hp.2.2 hq.2.2
      · rw [if_neg he, if_neg he]

/-- The reference: the best one of a method. -/
def bestStep (segs : Rt → List (List UInt8)) (m : List UInt8) (l : List (List UInt8)) (b : Option Rt) (r : Rt) : Option Rt :=
  if hasL (segs r) l = true then if r.m = m then match b with
    | none => some r
    | some x => if strL (segs r) (segs x) = true then some r else some x
  else b else b
def bestL (segs : Rt → List (List UInt8)) (m : List UInt8) (l : List (List UInt8)) (L : List Rt) : Option Rt := L.foldl (bestStep segs m l) none

section
variable {segs : Rt → List (List UInt8)} {L : List Rt} {l : List (List UInt8)}

theorem hits_mem {r : Rt} (hok : ∀ r ∈ L, SegsOk (segs r)) : r ∈ hitsL segs L l ↔ r ∈ L ∧ hasL (segs r) l = true := by
  unfold hitsL
  simp only [List.mem_flatten, List.mem_map]
  constructor
  · rintro ⟨_, ⟨q, hq, rfl⟩, h⟩
    simp at h
    exact ⟨h.1, (has_norm (hok r h.1) l).2 (h.2 ▸ hq)⟩
  · rintro ⟨h1, h2⟩
    exact ⟨_, ⟨norm (segs r), (has_norm (hok r h1) l).1 h2, rfl⟩, by simp [h1]⟩

theorem hits_sorted : (hitsL segs L l).Pairwise fun a b => norm (segs a) = norm (segs b) ∨ strS (norm (segs a)) (norm (segs b)) = true := by
  unfold hitsL
  rw [List.pairwise_flatten]
  refine ⟨fun x hx => ?_, ?_⟩
  · simp only [List.mem_map] at hx
    obtain ⟨q, _, rfl⟩ := hx
    rw [List.pairwise_filter]
    refine List.Pairwise.imp_of_mem (R := fun _ _ => True) ?_ (List.pairwise_of_forall (fun _ _ => trivial))
    intro a b _ _ _ ha hb
    simp at ha hb
    exact .inl (ha.trans hb.symm)
  · rw [List.pairwise_map]
    refine List.Pairwise.imp ?_ (cands_sorted l)
    intro a b h x hx y hy
    simp at hx hy
    right
    rw [hx.2, hy.2]; exact h

/-- No two have one method and one normalised pattern. -/
def KeysOk (segs : Rt → List (List UInt8)) (L : List Rt) : Prop := (∀ r ∈ L, SegsOk (segs r)) ∧ L.Pairwise fun a b => ¬ (a.m = b.m ∧ norm (segs a) = norm (segs b))

theorem KeysOk.uniq (h : KeysOk segs L) {a b : Rt} (ha : a ∈ L) (hb : b ∈ L) (h1 : a.m = b.m) (h2 : norm (segs a) = norm (segs b)) : a = b := by
  rcases pairwise_total h.2 ha hb with e | e | e
  · exact e
  · exact absurd ⟨h1, h2⟩ e
  · exact absurd ⟨h1.symm, h2.symm⟩ e

/-- What the strongest one of a method is. -/
def IsBest (segs : Rt → List (List UInt8)) (m : List UInt8) (l : List (List UInt8)) (L : List Rt) : Option Rt → Prop
  | none => ∀ r ∈ L, hasL (segs r) l = true → r.m ≠ m
  | some b => b ∈ L ∧ hasL (segs b) l = true ∧ b.m = m ∧ ∀ r ∈ L, hasL (segs r) l = true → r.m = m → norm (segs r) = norm (segs b) ∨ strS (norm (segs b)) (norm (segs r)) = true

theorem IsBest.uniq (h : KeysOk segs L) {m : List UInt8} {a b : Option Rt} (ha : IsBest segs m l L a) (hb : IsBest segs m l L b) : a = b := by
  cases a with
  | none =>
    cases b with
    | none => rfl
    | some b => exact absurd hb.2.2.1 (ha b hb.1 hb.2.1)
  | some a =>
    cases b with
    | none => exact absurd ha.2.2.1 (hb a ha.1 ha.2.1)
    | some b =>
      congr 1
      rcases ha.2.2.2 b hb.1 hb.2.1 hb.2.2.1 with e | e
      · exact h.uniq ha.1 hb.1 (ha.2.2.1.trans hb.2.2.1.symm) e.symm
      · rcases hb.2.2.2 a ha.1 ha.2.1 ha.2.2.1 with e' | e'
        · exact h.uniq ha.1 hb.1 (ha.2.2.1.trans hb.2.2.1.symm) e'
        · exact (strS_asymm e e').elim

theorem hits_best (h : KeysOk segs L) (m : List UInt8) : IsBest segs m l L ((hitsL segs L l).find? fun r => decide (r.m = m)) := by
  cases e : (hitsL segs L l).find? fun r => decide (r.m = m) with
  | none =>
    rw [List.find?_eq_none] at e
    intro r hr hh hm
    have := e r ((hits_mem h.1).2 ⟨hr, hh⟩)
    simp [hm] at this
  | some b =>
    obtain ⟨h1, l1, l2, e2, h3⟩ := List.find?_eq_some_iff_append.1 e
    have hb : b ∈ hitsL segs L l := by rw [e2]; simp
    obtain ⟨hbL, hbh⟩ := (hits_mem h.1).1 hb
    refine ⟨hbL, hbh, by simpa using h1, fun r hr hh hm => ?_⟩
    have hrh : r ∈ hitsL segs L l := (hits_mem h.1).2 ⟨hr, hh⟩
    have hs := hits_sorted (segs := segs) (L := L) (l := l)
    rw [e2] at hrh hs
    simp only [List.mem_append, List.mem_cons] at hrh
    rcases hrh with hrh | rfl | hrh
    · have := h3 r hrh; simp [hm] at this
    · exact .inl rfl
    · rw [List.pairwise_append] at hs
      rcases (List.pairwise_cons.1 hs.2.1).1 r hrh with e | e
      · exact .inl e.symm
      · exact .inr e

theorem bestL_best (h : KeysOk segs L) (m : List UInt8) : IsBest segs m l L (bestL segs m l L) := by
  have key : ∀ (L1 L0 : List Rt) (b : Option Rt), KeysOk segs (L0 ++ L1) → IsBest segs m l L0 b →
      IsBest segs m l (L0 ++ L1) (L1.foldl (bestStep segs m l) b) := by
    intro L1
    induction L1 with
    | nil => intro L0 b _ hb; simpa using hb
    | cons r L1 ih =>
      intro L0 b hk hb
      rw [show L0 ++ r :: L1 = (L0 ++ [r]) ++ L1 by simp] at hk ⊢
      refine ih (L0 ++ [r]) _ hk ?_
      have hokr : SegsOk (segs r) := hk.1 r (by simp)
      by_cases hh : hasL (segs r) l = true
      · by_cases hm : r.m = m
        · unfold bestStep
          rw [if_pos hh, if_pos hm]
          cases b with
          | none =>
            refine ⟨by simp, hh, hm, fun x hx hxh hxm => ?_⟩
            simp at hx
            rcases hx with hx | rfl
            · exact absurd hxm (hb x hx hxh)
            · exact .inl rfl
          | some b =>
            obtain ⟨b1, b2, b3, b4⟩ := hb
            have hokb : SegsOk (segs b) := hk.1 b (by simp [b1])
            simp only
            rw [strL_norm hokr hokb]
            by_cases hs : strS (norm (segs r)) (norm (segs b)) = true
            · rw [if_pos hs]
              refine ⟨by simp, hh, hm, fun x hx hxh hxm => ?_⟩
              simp at hx
              rcases hx with hx | rfl
              · rcases b4 x hx hxh hxm with e | e
                · rw [e]; exact .inr hs
                · exact .inr (strS_trans hs e)
              · exact .inl rfl
            · rw [if_neg hs]
              refine ⟨by simp [b1], b2, b3, fun x hx hxh hxm => ?_⟩
              simp at hx
              rcases hx with hx | rfl
              · exact b4 x hx hxh hxm
              · rcases pairwise_total (cands_sorted l) ((has_norm hokr l).1 hh) ((has_norm hokb l).1 b2) with e | e | e
                · exact .inl e
                · exact absurd e hs
                · exact .inr e
        · have : bestStep segs m l b r = b := by simp [bestStep, hm]
          rw [this]
          cases b with
          | none => intro x hx hxh; simp at hx; rcases hx with hx | rfl; exact hb x hx hxh; exact hm
          | some b =>
            obtain ⟨b1, b2, b3, b4⟩ := hb
            refine ⟨by simp [b1], b2, b3, fun x hx hxh hxm => ?_⟩
            simp at hx
            rcases hx with hx | rfl
            · exact b4 x hx hxh hxm
            · exact absurd hxm hm
      · have : bestStep segs m l b r = b := by simp [bestStep, hh]
        rw [this]
        cases b with
        | none => intro x hx hxh; simp at hx; rcases hx with hx | rfl; exact hb x hx hxh; exact absurd hxh hh
        | some b =>
          obtain ⟨b1, b2, b3, b4⟩ := hb
          refine ⟨by simp [b1], b2, b3, fun x hx hxh hxm => ?_⟩
          simp at hx
          rcases hx with hx | rfl
          · exact b4 x hx hxh hxm
          · exact absurd hxh hh
  have := key L [] none (by simpa using h) (by intro r hr; simp at hr)
  simpa [bestL] using this

/-- The tree's strongest one is the list's. -/
theorem hits_bestL (h : KeysOk segs L) (m : List UInt8) : ((hitsL segs L l).find? fun r => decide (r.m = m)) = bestL segs m l L := IsBest.uniq h (hits_best h m) (bestL_best h m)

/-- The order of the routes plays no part. -/
theorem KeysOk.perm {L' : List Rt} (h : KeysOk segs L) (hp : L.Perm L') : KeysOk segs L' :=
  ⟨fun r hr => h.1 r (hp.mem_iff.2 hr), h.2.perm hp fun hab => fun e => hab ⟨e.1.symm, e.2.symm⟩⟩
theorem IsBest.perm {L' : List Rt} {m : List UInt8} {b : Option Rt} (h : IsBest segs m l L b) (hp : L.Perm L') : IsBest segs m l L' b := by
  cases b with
  | none => exact fun r hr => h r (hp.mem_iff.2 hr)
  | some b => exact ⟨hp.mem_iff.1 h.1, h.2.1, h.2.2.1, fun r hr => h.2.2.2 r (hp.mem_iff.2 hr)⟩

end
end Go.Proofs.YtlmoifeinglaeaaDoor
