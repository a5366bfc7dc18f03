/- Trees of routes (layer 8): no edge leads to nothing. No program in sight. -/
import Derived.Test.YtlmoifeinglaeaaDoorDen
namespace Go.Proofs.YtlmoifeinglaeaaDoor

/-- No edge leads to nothing. -/
inductive Ful : Nd → Prop where
  | nil : Ful .nil
  | node {es nx pm rs en} (hz : ∀ e ∈ es, e.2 ≠ Nd.nil) (he : ∀ e ∈ es, Ful e.2) (hn : Ful nx) (hp : Ful pm) (hr : Ful rs) : Ful (.node es nx pm rs en)

theorem Ful.mk {es nx pm rs en} (he : ∀ e ∈ es, e.2 ≠ Nd.nil ∧ Ful e.2) (hn : Ful nx) (hp : Ful pm) (hr : Ful rs) : Ful (.node es nx pm rs en) := .node (fun e h => (he e h).1) (fun e h => (he e h).2) hn hp hr
theorem Ful.edge {t : Nd} (h : Ful t) : ∀ e ∈ t.es, e.2 ≠ Nd.nil ∧ Ful e.2 := by
  cases h with
  | nil => simp [Nd.es]
  | node hz he => exact fun e h => ⟨hz e h, he e h⟩
theorem Ful.nx {t : Nd} (h : Ful t) : Ful t.nx := by cases h with | nil => exact .nil | node _ _ hn => exact hn
theorem Ful.pm {t : Nd} (h : Ful t) : Ful t.pm := by cases h with | nil => exact .nil | node _ _ _ hp => exact hp
theorem Ful.rs {t : Nd} (h : Ful t) : Ful t.rs := by cases h with | nil => exact .nil | node _ _ _ _ hr => exact hr

theorem wordT_ne (F : Nd → Nd) (k : Nat) (t : Nd) (s : List UInt8) : wordT F k t s ≠ .nil := by
  cases k with
  | zero => simp [wordT, Nd.next]
  | succ k =>
    unfold wordT
    split
    · simp [Nd.next]
    · split
      · simp [Nd.edges]
      · simp only
        split <;> simp [Nd.edges]

theorem Ful.word {F : Nd → Nd} (hF : ∀ t, Ful t → Ful (F t)) (k : Nat) {t : Nd} (h : Ful t) (s : List UInt8) : Ful (wordT F k t s) := by
  induction k generalizing t s with
  | zero => exact .mk h.edge (hF _ h.nx) h.pm h.rs
  | succ k ih =>
    unfold wordT
    split
    · exact .mk h.edge (hF _ h.nx) h.pm h.rs
    · split
      · refine .mk (fun x hx => ?_) h.nx h.pm h.rs
        simp at hx
        rcases hx with hx | rfl
        · exact h.edge x hx
        · exact ⟨wordT_ne F k _ _, ih .nil []⟩
      · rename_i i e
        have hg : (t.es.getD i ([], .nil)).2 = .nil ∨ t.es.getD i ([], .nil) ∈ t.es := by
          rw [List.getD_eq_getElem?_getD]
          cases e : t.es[i]? with
          | none => exact .inl rfl
          | some x => exact .inr (List.mem_of_getElem? e)
        have hful : Ful (t.es.getD i ([], .nil)).2 := by
          rcases hg with h9 | h9
          · rw [h9]; exact .nil
          · exact (h.edge _ h9).2
        simp only
        split
        · refine .mk (fun x hx => ?_) h.nx h.pm h.rs
          rcases List.mem_or_eq_of_mem_set hx with hx | rfl
          · exact h.edge x hx
          · exact ⟨wordT_ne F k _ _, ih hful _⟩
        · refine .mk (fun x hx => ?_) h.nx h.pm h.rs
          rcases List.mem_or_eq_of_mem_set hx with hx | rfl
          · exact h.edge x hx
          · refine ⟨wordT_ne F k _ _, ih (.mk (fun x hx => ?_) .nil .nil .nil) _⟩
            rw [List.mem_singleton] at hx
            subst hx
            have hi : i < t.es.length := by
              have e' := e
              unfold findE at e'
              rw [List.findIdx?_eq_some_iff_getElem] at e'
              exact e'.1
            have hm : t.es.getD i ([], .nil) ∈ t.es := by simp [List.getD_eq_getElem?_getD, hi]
            exact ⟨(h.edge _ hm).1, (h.edge _ hm).2⟩

theorem Ful.put {r : Rt} (p : List (List UInt8)) {t : Nd} (h : Ful t) : Ful (putT p r t) := by
  induction p generalizing t with
  | nil => exact .mk h.edge h.nx h.pm h.rs
  | cons x l ih =>
    unfold putT
    split
    · exact Ful.word (fun t ht => ih ht) _ h _
    · split
      · exact .mk h.edge h.nx (ih h.pm) h.rs
      · exact .mk h.edge h.nx h.pm (.mk h.rs.edge h.rs.nx h.rs.pm h.rs.rs)

theorem Ful.build (segs : Rt → List (List UInt8)) (L : List Rt) : Ful (buildT segs L) := by
  have key : ∀ (L : List Rt) (t : Nd), Ful t → Ful (L.foldl (fun t r => putT (segs r) r t) t) := by
    intro L
    induction L with
    | nil => intro t h; exact h
    | cons r L ih => intro t h; exact ih _ (h.put _)
  exact key L .nil .nil

theorem Ful.step {t : Nd} (h : Ful t) (k : Nat) (s : List UInt8) : Ful (stepT k t s) := by
  induction k generalizing t s with
  | zero => exact h.nx
  | succ k ih =>
    unfold stepT
    split
    · exact h.nx
    · split
      · exact .nil
      · rename_i e he
        exact ih (h.edge _ (List.mem_of_find?_eq_some he)).2 _
end Go.Proofs.YtlmoifeinglaeaaDoor
