/- Trees of routes (layer 8): routes that may stand beside one another. No program in sight. -/
import Derived.Test.YtlmoifeinglaeaaDoorMat
import Derived.Test.YtlmoifeinglaeaaDoorCheckB
namespace Go.Proofs.YtlmoifeinglaeaaDoor

theorem segsOk_ok : ∀ (p names : List (List UInt8)), segsOk names p = true → SegsOk p
  | [], _, _ => trivial
  | x :: p, names, h => by
    simp only [segsOk, Bool.and_eq_true] at h
    refine ⟨?_, fun k => ?_, segsOk_ok p _ h.2⟩
    · rintro rfl
      have := h.1
      simp [segOk, kindL, tokL] at this
    · have := h.1
      simp [segOk, k] at this
      exact this.1

/-- A route's segments. -/
def segR (r : Rt) : List (List UInt8) := (patL r.p).1

theorem patL_segs (s : List UInt8) : SegsOk (patL s).1 := by
  unfold patL
  split
  · trivial
  · split
    · trivial
    · split
      · rename_i h; exact segsOk_ok _ _ h
      · trivial

theorem shape_norm {p q : List (List UInt8)} (hp : SegsOk p) (hq : SegsOk q) (h : norm p = norm q) : shapeL p = shapeL q := by
  induction p generalizing q with
  | nil =>
    cases q with
    | nil => rfl
    | cons y q => obtain ⟨a, r, e, _⟩ := rk_norm y q; rw [e] at h; simp [norm] at h
  | cons x p ih =>
    cases q with
    | nil => obtain ⟨a, r, e, _⟩ := rk_norm x p; rw [e] at h; simp [norm] at h
    | cons y q =>
      have hcons : ∀ (z : List UInt8) (u : List (List UInt8)), shapeL (z :: u) = shapeSeg z ++ shapeL u := fun z u => by simp [shapeL]
      rw [hcons, hcons]
      rw [norm, norm] at h
      rcases kindL_cases x with k | k | k <;> rcases kindL_cases y with k' | k' | k' <;> simp [k, k'] at h
      · obtain ⟨rfl, h⟩ := h
        rw [ih hp.2.2 hq.2.2 h]
      · rw [ih hp.2.2 hq.2.2 h]; simp [shapeSeg, k, k']
      · rw [hp.2.1 k, hq.2.1 k']; simp [shapeSeg, k, k']

theorem checkL_zero {L : List Rt} (h : checkL L = 0) : (∀ r ∈ L, rightB r = true) ∧ L.length ≤ 24 ∧ (L.map keyR).Nodup := by
  unfold checkL at h
  split at h
  · rename_i h1
    split at h
    · omega
    · split at h
      · rename_i h2 h3
        exact ⟨by simpa using h1, by omega, h3⟩
      · omega
  · omega

theorem checkL_keys {L : List Rt} (h : checkL L = 0) : KeysOk segR L := by
  obtain ⟨h1, h2, h3⟩ := checkL_zero h
  refine ⟨fun r _ => patL_segs r.p, ?_⟩
  rw [List.Nodup, List.pairwise_map] at h3
  refine h3.imp fun {a b} hab => fun e => hab ?_
  unfold keyR
  rw [e.1, shape_norm (patL_segs a.p) (patL_segs b.p) e.2]
end Go.Proofs.YtlmoifeinglaeaaDoor
