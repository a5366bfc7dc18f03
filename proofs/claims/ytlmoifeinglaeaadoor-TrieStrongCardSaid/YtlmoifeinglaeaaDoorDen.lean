/- Trees of routes (layer 8): what ends where in a tree that put makes. No program in sight. -/
import Derived.Test.YtlmoifeinglaeaaDoorTrieS
namespace Go.Proofs.YtlmoifeinglaeaaDoor

/-- A normalised pattern's segment. -/
inductive Sg where
  | w (x : List UInt8)
  | p
  | r
deriving DecidableEq

def norm : List (List UInt8) → List Sg
  | [] => []
  | x :: l => if kindL x = 0 then .w x :: norm l else if kindL x = 1 then .p :: norm l else [.r]

/-- What ends at a normalised pattern. -/
def den : Nd → List Sg → List Rt
  | t, [] => t.en
  | t, .w x :: q => den (stepT x.length t x) q
  | t, .p :: q => den t.pm q
  | t, .r :: q => if q = [] then t.rs.en else []

/-- Edges: none is empty, no two begin alike. -/
def EdOk (es : List (List UInt8 × Nd)) : Prop := (∀ e ∈ es, e.1 ≠ []) ∧ es.Pairwise fun a b => a.1.head? ≠ b.1.head?

inductive Rdx : Nd → Prop where
  | nil : Rdx .nil
  | node {es nx pm rs en} (ho : EdOk es) (he : ∀ e ∈ es, Rdx e.2) (hn : Rdx nx) (hp : Rdx pm) (hr : Rdx rs) : Rdx (.node es nx pm rs en)

theorem Rdx.ok {t : Nd} (h : Rdx t) : EdOk t.es := by
  cases h with
  | nil => exact ⟨by simp [Nd.es], by simp [Nd.es]⟩
  | node ho => exact ho
theorem Rdx.edge {t : Nd} (h : Rdx t) : ∀ e ∈ t.es, Rdx e.2 := by
  cases h with
  | nil => simp [Nd.es]
  | node _ he => exact he
theorem Rdx.nx {t : Nd} (h : Rdx t) : Rdx t.nx := by cases h with | nil => exact .nil | node _ _ hn => exact hn
theorem Rdx.pm {t : Nd} (h : Rdx t) : Rdx t.pm := by cases h with | nil => exact .nil | node _ _ _ hp => exact hp
theorem Rdx.rs {t : Nd} (h : Rdx t) : Rdx t.rs := by cases h with | nil => exact .nil | node _ _ _ _ hr => exact hr

/-- The edge that begins with a byte. -/
def edAt (es : List (List UInt8 × Nd)) (d : UInt8) : Option (List UInt8 × Nd) := es.find? fun e => e.1.head? == some d

theorem isPre_head {x : List UInt8} {d : UInt8} {s : List UInt8} (hx : x ≠ []) (h : x.isPrefixOf (d :: s) = true) : x.head? = some d := by
  cases x with
  | nil => exact absurd rfl hx
  | cons a x => simp at h; simp [h.1]

theorem edAt_find {es : List (List UInt8 × Nd)} (h : EdOk es) (d : UInt8) (s : List UInt8) :
    (es.find? fun e => e.1.isPrefixOf (d :: s)) = (edAt es d).filter fun e => e.1.isPrefixOf (d :: s) := by
  obtain ⟨h1, h2⟩ := h
  induction es with
  | nil => rfl
  | cons e es ih =>
    have ih := ih (fun x hx => h1 x (List.mem_cons_of_mem _ hx)) (List.pairwise_cons.1 h2).2
    have he := h1 e List.mem_cons_self
    unfold edAt at ih ⊢
    by_cases hd : e.1.head? = some d
    · have hno : (es.find? fun e => e.1.isPrefixOf (d :: s)) = none := by
        rw [List.find?_eq_none]
        intro x hx hp
        have := isPre_head (h1 x (List.mem_cons_of_mem _ hx)) hp
        exact (List.pairwise_cons.1 h2).1 x hx (hd.trans this.symm)
      rw [List.find?_cons, List.find?_cons]
      have e2 : (e.1.head? == some d) = true := by simp [hd]
      rw [e2]
      by_cases hp : e.1.isPrefixOf (d :: s) = true
      · simp [hp, Option.filter]
      · simp only [Bool.not_eq_true] at hp; simp [hp, hno, Option.filter]
    · have hp : e.1.isPrefixOf (d :: s) = false := by
        rw [Bool.eq_false_iff]
        intro hp
        exact hd (isPre_head he hp)
      have e2 : (e.1.head? == some d) = false := by simp [hd]
      rw [List.find?_cons, List.find?_cons, hp, e2]
      exact ih

/-- step, said anew. -/
def goE (k : Nat) (s : List UInt8) (o : Option (List UInt8 × Nd)) : Nd :=
  match o with
  | none => .nil
  | some e => if e.1.isPrefixOf s then stepT k e.2 (s.drop e.1.length) else .nil

theorem stepT_cons {t : Nd} (h : EdOk t.es) (k : Nat) (d : UInt8) (s : List UInt8) : stepT (k + 1) t (d :: s) = goE k (d :: s) (edAt t.es d) := by
  unfold stepT goE
  rw [edAt_find h]
  cases edAt t.es d with
  | none => rfl
  | some e =>
    simp only [Option.filter]
    by_cases hp : e.1.isPrefixOf (d :: s) = true
    · simp [hp]
    · simp only [Bool.not_eq_true] at hp; simp [hp]

theorem stepT_nil (k : Nat) (t : Nd) : stepT k t [] = t.nx := by cases k <;> rfl

theorem stepT_none (k : Nat) (s : List UInt8) : stepT k .nil s = .nil := by
  cases k with
  | zero => rfl
  | succ k => unfold stepT; simp [Nd.es, Nd.nx]

theorem edAt_some {es : List (List UInt8 × Nd)} {d : UInt8} {e : List UInt8 × Nd} (h : edAt es d = some e) : e ∈ es ∧ e.1.head? = some d := by
  unfold edAt at h
  exact ⟨List.mem_of_find?_eq_some h, by simpa using List.find?_some h⟩

theorem pre_split {x s : List UInt8} (h : x.isPrefixOf s = true) : s = x ++ s.drop x.length := by
  rw [List.isPrefixOf_iff_prefix] at h
  obtain ⟨t, rfl⟩ := h
  simp

/-- Fuel plays no part. -/
theorem stepT_fuel {t : Nd} (h : Rdx t) (k j : Nat) (s : List UInt8) (hk : s.length ≤ k) (hj : s.length ≤ j) : stepT k t s = stepT j t s := by
  induction k generalizing t s j with
  | zero =>
    have : s = [] := List.eq_nil_of_length_eq_zero (by omega)
    subst this
    rw [stepT_nil, stepT_nil]
  | succ k ih =>
    cases s with
    | nil => rw [stepT_nil, stepT_nil]
    | cons d s =>
      cases j with
      | zero => simp at hj
      | succ j =>
        rw [stepT_cons h.ok, stepT_cons h.ok]
        unfold goE
        cases e : edAt t.es d with
        | none => rfl
        | some x =>
          obtain ⟨hm, hd⟩ := edAt_some e
          have hx : x.1 ≠ [] := h.ok.1 x hm
          have : 0 < x.1.length := List.length_pos_iff.2 hx
          simp only
          split
          · exact ih (h.edge x hm) j _ (by simp at hk ⊢; omega) (by simp at hj ⊢; omega)
          · rfl

theorem comm_pos {x s : List UInt8} {c : UInt8} : comm x (c :: s) ≠ 0 ↔ x.head? = some c := by
  cases x with
  | nil => simp [comm]
  | cons a x =>
    unfold comm
    by_cases h : a = c
    · simp [h]
    · simp [h]

theorem findE_cons (es : List (List UInt8 × Nd)) (c : UInt8) (s : List UInt8) : findE es (c :: s) = es.findIdx? fun e => e.1.head? == some c := by
  unfold findE
  congr 1
  funext e
  rw [Bool.eq_iff_iff]
  simp only [bne_iff_ne, beq_iff_eq]
  exact comm_pos

theorem edAt_of_find {es : List (List UInt8 × Nd)} {c : UInt8} {i : Nat} (h : es.findIdx? (fun e => e.1.head? == some c) = some i) :
    ∃ hi : i < es.length, edAt es c = some es[i] ∧ es[i].1.head? = some c := by
  rw [List.findIdx?_eq_some_iff_getElem] at h
  obtain ⟨hi, h1, h2⟩ := h
  refine ⟨hi, ?_, by simpa using h1⟩
  unfold edAt
  rw [List.find?_eq_some_iff_getElem]
  exact ⟨h1, i, hi, rfl, fun j hj => by simpa using h2 j hj⟩

theorem edAt_set {es : List (List UInt8 × Nd)} {c : UInt8} {i : Nat} (h : EdOk es) (hi : i < es.length) (hc : es[i].1.head? = some c) (y : List UInt8 × Nd) (hy : y.1.head? = some c) (d : UInt8) :
    edAt (es.set i y) d = if d = c then some y else edAt es d := by
  obtain ⟨h1, h2⟩ := h
  induction es generalizing i with
  | nil => simp at hi
  | cons e es ih =>
    cases i with
    | zero =>
      simp only [List.set_cons_zero, List.getElem_cons_zero] at hc ⊢
      unfold edAt
      simp only [List.find?_cons, hc, hy]
      by_cases hd : d = c
      · subst hd; simp
      · have : (some c == some d) = false := by simp; exact fun e => hd e.symm
        simp [this, hd]
    | succ i =>
      have hi' : i < es.length := by simpa using hi
      simp only [List.set_cons_succ, List.getElem_cons_succ] at hc ⊢
      have ih := ih hi' hc (fun x hx => h1 x (List.mem_cons_of_mem _ hx)) (List.pairwise_cons.1 h2).2
      have hne : e.1.head? ≠ some c := fun he => (List.pairwise_cons.1 h2).1 es[i] (List.getElem_mem hi') (he.trans hc.symm)
      unfold edAt at ih ⊢
      simp only [List.find?_cons]
      by_cases hd : d = c
      · subst hd
        have : (e.1.head? == some d) = false := by simp [hne]
        rw [this]
        simpa using ih
      · rw [ih]; simp [hd]

theorem edAt_snoc {es : List (List UInt8 × Nd)} {c : UInt8} (hno : es.findIdx? (fun e => e.1.head? == some c) = none) (y : List UInt8 × Nd) (hy : y.1.head? = some c) (d : UInt8) :
    edAt (es ++ [y]) d = if d = c then some y else edAt es d := by
  unfold edAt
  rw [List.find?_append]
  by_cases hd : d = c
  · subst hd
    have : (es.find? fun e => e.1.head? == some d) = none := by
      rw [List.find?_eq_none]
      rw [List.findIdx?_eq_none_iff] at hno
      intro x hx
      simpa using hno x hx
    rw [this]
    simp [hy]
  · have : ([y].find? fun e => e.1.head? == some d) = none := by
      have : (some c == some d) = false := by simp; exact fun (e : c = d) => hd e.symm
      simp [hy, this]
    rw [this]
    simp [hd]

theorem EdOk.snoc {es : List (List UInt8 × Nd)} {c : UInt8} (h : EdOk es) (hno : es.findIdx? (fun e => e.1.head? == some c) = none) (y : List UInt8 × Nd) (hy : y.1.head? = some c) : EdOk (es ++ [y]) := by
  refine ⟨fun e he => ?_, ?_⟩
  · simp at he
    rcases he with he | rfl
    · exact h.1 e he
    · intro e; rw [e] at hy; simp at hy
  · rw [List.pairwise_append]
    refine ⟨h.2, by simp, fun a ha b hb => ?_⟩
    simp at hb
    subst hb
    rw [List.findIdx?_eq_none_iff] at hno
    have := hno a ha
    rw [hy]
    simpa using this

theorem EdOk.set {es : List (List UInt8 × Nd)} {c : UInt8} {i : Nat} (h : EdOk es) (hi : i < es.length) (hc : es[i].1.head? = some c) (y : List UInt8 × Nd) (hy : y.1.head? = some c) : EdOk (es.set i y) := by
  refine ⟨fun e he => ?_, ?_⟩
  · rcases List.mem_or_eq_of_mem_set he with he | rfl
    · exact h.1 e he
    · intro e; rw [e] at hy; simp at hy
  · have h2 := h.2
    rw [List.pairwise_iff_getElem] at h2 ⊢
    intro a b ha hb hab
    rw [List.getElem_set, List.getElem_set]
    simp only [List.length_set] at ha hb
    by_cases e1 : i = a
    · subst e1
      have : ¬ i = b := by omega
      simp only [if_true, this, if_false]
      rw [hy, ← hc]
      exact h2 i b hi hb hab
    · by_cases e2 : i = b
      · subst e2
        simp only [e1, if_false, if_true]
        rw [hy, ← hc]
        exact h2 a i ha hi hab
      · simp only [e1, e2, if_false]
        exact h2 a b ha hb hab

/-- word, said anew. -/
theorem wordT_nil (F : Nd → Nd) (k : Nat) (t : Nd) : wordT F k t [] = t.next F := by cases k <;> simp [wordT]

theorem wordT_rest (F : Nd → Nd) (k : Nat) (t : Nd) (s : List UInt8) :
    (wordT F k t s).en = t.en ∧ (wordT F k t s).pm = t.pm ∧ (wordT F k t s).rs = t.rs ∧ (s ≠ [] → s.length ≤ k → (wordT F k t s).nx = t.nx) := by
  cases k with
  | zero =>
    refine ⟨rfl, rfl, rfl, fun h1 h2 => absurd (List.eq_nil_of_length_eq_zero (by omega)) h1⟩
  | succ k =>
    unfold wordT
    by_cases hs : s = []
    · subst hs; exact ⟨rfl, rfl, rfl, fun h => absurd rfl h⟩
    · rw [if_neg hs]
      split
      · exact ⟨rfl, rfl, rfl, fun _ _ => rfl⟩
      · simp only
        split <;> exact ⟨rfl, rfl, rfl, fun _ _ => rfl⟩

theorem Rdx.word {F : Nd → Nd} (hF : ∀ t, Rdx t → Rdx (F t)) (k : Nat) {t : Nd} (h : Rdx t) (s : List UInt8) : Rdx (wordT F k t s) := by
  induction k generalizing t s with
  | zero => exact .node h.ok h.edge (hF _ h.nx) h.pm h.rs
  | succ k ih =>
    unfold wordT
    by_cases hs : s = []
    · rw [if_pos hs]; exact .node h.ok h.edge (hF _ h.nx) h.pm h.rs
    · rw [if_neg hs]
      obtain ⟨c, s, rfl⟩ := List.exists_cons_of_ne_nil hs
      split
      · rename_i e
        rw [findE_cons] at e
        refine .node (h.ok.snoc e _ rfl) (fun x hx => ?_) h.nx h.pm h.rs
        simp at hx
        rcases hx with hx | rfl
        · exact h.edge x hx
        · exact ih .nil []
      · rename_i i e
        rw [findE_cons] at e
        obtain ⟨hi, _, hc⟩ := edAt_of_find e
        have hg : t.es.getD i ([], .nil) = t.es[i] := by simp [List.getD_eq_getElem?_getD, hi]
        have hm : t.es[i] ∈ t.es := List.getElem_mem hi
        simp only [hg]
        split
        · refine .node (h.ok.set hi hc _ hc) (fun x hx => ?_) h.nx h.pm h.rs
          rcases List.mem_or_eq_of_mem_set hx with hx | rfl
          · exact h.edge x hx
          · exact ih (h.edge _ hm) _
        · rename_i hfull
          have hcm := (comm_le t.es[i].1 (c :: s)).1
          refine .node (h.ok.set hi hc _ ?_) (fun x hx => ?_) h.nx h.pm h.rs
          · have := (comm_pos (s := s)).2 hc
            cases e : t.es[i].1 with
            | nil => rw [e] at hc; simp at hc
            | cons a x =>
              rw [e] at hc this
              obtain ⟨n, hn⟩ := Nat.exists_eq_succ_of_ne_zero this
              rw [hn]
              simpa using hc
          · rcases List.mem_or_eq_of_mem_set hx with hx | rfl
            · exact h.edge x hx
            · refine ih (.node ⟨fun e he => ?_, by simp⟩ (fun e he => ?_) .nil .nil .nil) _
              · simp at he
                subst he
                simp
                omega
              · simp at he
                subst he
                show Rdx t.es[i].2
                exact h.edge _ hm

theorem drop_pre_eq {x s s' : List UInt8} (h : x.isPrefixOf s = true) (h' : x.isPrefixOf s' = true) : (s'.drop x.length = s.drop x.length) ↔ s' = s := by
  constructor
  · intro e
    rw [pre_split h, pre_split h', e]
  · intro e; rw [e]

/-- What step finds behind word. -/
theorem step_word {F : Nd → Nd} (hF : ∀ t, Rdx t → Rdx (F t)) (k : Nat) {t : Nd} (h : Rdx t) (s s' : List UInt8) (j : Nat) (hk : s.length ≤ k) (hj : s'.length ≤ j) :
    stepT j (wordT F k t s) s' = if s' = s then F (stepT j t s') else stepT j t s' := by
  induction k generalizing t s s' j with
  | zero =>
    have : s = [] := List.eq_nil_of_length_eq_zero (by omega)
    subst this
    rw [wordT_nil]
    cases s' with
    | nil => rw [stepT_nil, stepT_nil, if_pos rfl]; rfl
    | cons d s' =>
      cases j with
      | zero => simp at hj
      | succ j => rw [stepT_cons h.ok, stepT_cons (t := t.next F) h.ok]; simp; rfl
  | succ k ih =>
    by_cases hs : s = []
    · subst hs
      rw [wordT_nil]
      cases s' with
      | nil => rw [stepT_nil, stepT_nil, if_pos rfl]; rfl
      | cons d s' =>
        cases j with
        | zero => simp at hj
        | succ j => rw [stepT_cons h.ok, stepT_cons (t := t.next F) h.ok]; simp; rfl
    · cases s' with
      | nil =>
        rw [stepT_nil, stepT_nil, if_neg (fun e => hs e.symm), (wordT_rest F (k + 1) t s).2.2.2 hs hk]
      | cons d s' =>
        cases j with
        | zero => simp at hj
        | succ j =>
          have hr := Rdx.word hF (k + 1) h s
          rw [stepT_cons h.ok, stepT_cons hr.ok]
          unfold wordT
          rw [if_neg hs]
          obtain ⟨c, s, rfl⟩ := List.exists_cons_of_ne_nil hs
          split
          · rename_i e
            rw [findE_cons] at e
            show goE j (d :: s') (edAt (t.es ++ _) d) = _
            rw [edAt_snoc e _ rfl]
            by_cases hd : d = c
            · subst hd
              have hno : edAt t.es d = none := by
                unfold edAt
                rw [List.find?_eq_none]
                rw [List.findIdx?_eq_none_iff] at e
                intro x hx
                simpa using e x hx
              rw [hno, if_pos rfl]
              show (if (d :: s).isPrefixOf (d :: s') then stepT j (wordT F k .nil []) ((d :: s').drop (d :: s).length) else Nd.nil) = if d :: s' = d :: s then F .nil else .nil
              rw [wordT_nil]
              by_cases hp : (d :: s).isPrefixOf (d :: s') = true
              · rw [if_pos hp]
                by_cases he : d :: s' = d :: s
                · rw [if_pos he, he]
                  simp only [List.drop_length]
                  rw [stepT_nil]; rfl
                · rw [if_neg he]
                  have hne : (d :: s').drop (d :: s).length ≠ [] := by
                    intro e0
                    apply he
                    rw [pre_split hp, e0]; simp
                  obtain ⟨c2, s2, e2⟩ := List.exists_cons_of_ne_nil hne
                  rw [e2]
                  cases j with
                  | zero => have h9 := congrArg List.length e2; rw [List.length_drop, List.length_cons, List.length_cons, List.length_cons] at h9; rw [List.length_cons] at hj; omega
                  | succ j => unfold stepT; simp [Nd.next, Nd.es]
              · rw [if_neg hp, if_neg]
                intro e0
                rw [e0] at hp
                exact hp (List.isPrefixOf_iff_prefix.2 (List.prefix_refl _))
            · rw [if_neg hd, if_neg (by simp [hd])]
          · rename_i i e
            rw [findE_cons] at e
            obtain ⟨hi, hat, hc⟩ := edAt_of_find e
            have hg : t.es.getD i ([], .nil) = t.es[i] := by simp [List.getD_eq_getElem?_getD, hi]
            have hm : t.es[i] ∈ t.es := List.getElem_mem hi
            have hne : t.es[i].1 ≠ [] := h.ok.1 _ hm
            have hpos : 0 < t.es[i].1.length := List.length_pos_iff.2 hne
            have hcp : comm t.es[i].1 (c :: s) ≠ 0 := comm_pos.2 hc
            have hcl := comm_le t.es[i].1 (c :: s)
            have hct := comm_take t.es[i].1 (c :: s)
            have hre := h.edge _ hm
            have hci := comm_iff t.es[i].1 (c :: s)
            simp only [hg]
            generalize t.es[i] = x at *
            split
            · rename_i hfull
              have hp := hci.1 hfull
              show goE j (d :: s') (edAt (t.es.set i _) d) = _
              rw [edAt_set h.ok hi (by
                have := (edAt_of_find e).2.2
                exact this) (x.1, wordT F k x.2 ((c :: s).drop (comm x.1 (c :: s)))) hc]
              by_cases hd : d = c
              · subst hd
                rw [if_pos rfl, hat]
                show (if x.1.isPrefixOf (d :: s') then stepT j (wordT F k x.2 ((d :: s).drop (comm x.1 (d :: s)))) ((d :: s').drop x.1.length) else Nd.nil) = _
                unfold goE
                simp only
                rw [hfull]
                by_cases hp' : x.1.isPrefixOf (d :: s') = true
                · rw [if_pos hp', if_pos hp', ih hre _ _ _ (by simp at hk ⊢; omega) (by simp at hj ⊢; omega)]
                  by_cases he : d :: s' = d :: s
                  · rw [if_pos he, if_pos ((drop_pre_eq hp hp').2 he)]
                  · rw [if_neg he, if_neg (fun e => he ((drop_pre_eq hp hp').1 e))]
                · rw [if_neg hp', if_neg hp', if_neg]
                  intro e0
                  rw [e0] at hp'
                  exact hp' hp
              · rw [if_neg hd, if_neg (by simp [hd])]
            · rename_i hfull
              generalize hcc : comm x.1 (c :: s) = cc at *
              have hp : (x.1.take cc).isPrefixOf (c :: s) = true := by
                rw [hct, List.isPrefixOf_iff_prefix]; exact List.take_prefix _ _
              have htl : (x.1.take cc).length = cc := by simp; omega
              have hth : (x.1.take cc).head? = some c := by
                cases e : x.1 with
                | nil => exact absurd e hne
                | cons a y =>
                  rw [e] at hc
                  obtain ⟨n, hn⟩ := Nat.exists_eq_succ_of_ne_zero hcp
                  rw [hn]
                  simpa using hc
              show goE j (d :: s') (edAt (t.es.set i _) d) = _
              rw [edAt_set h.ok hi (by
                have := (edAt_of_find e).2.2
                exact this) (x.1.take cc, wordT F k (.node [(x.1.drop cc, x.2)] .nil .nil .nil []) ((c :: s).drop cc)) hth]
              by_cases hd : d = c
              · subst hd
                rw [if_pos rfl, hat]
                have hmid : Rdx (.node [(x.1.drop cc, x.2)] .nil .nil .nil []) := .node ⟨fun e he => by
                    simp at he; subst he; simp; omega, by simp⟩ (fun e he => by simp at he; subst he; exact hre) .nil .nil .nil
                show (if (x.1.take cc).isPrefixOf (d :: s') then stepT j (wordT F k (.node [(x.1.drop cc, x.2)] .nil .nil .nil []) ((d :: s).drop cc)) ((d :: s').drop (x.1.take cc).length) else Nd.nil) = _
                unfold goE
                simp only
                rw [htl]
                -- behind the new node
                have hback : (x.1.take cc).isPrefixOf (d :: s') = true → stepT j (.node [(x.1.drop cc, x.2)] .nil .nil .nil []) ((d :: s').drop cc) = if x.1.isPrefixOf (d :: s') = true then stepT j x.2 ((d :: s').drop x.1.length) else .nil := by
                  intro hp'
                  have hsp := pre_split hp'
                  rw [htl] at hsp
                  have hiff : x.1.isPrefixOf (d :: s') = (x.1.drop cc).isPrefixOf ((d :: s').drop cc) := by
                    rw [Bool.eq_iff_iff, List.isPrefixOf_iff_prefix, List.isPrefixOf_iff_prefix]
                    constructor
                    · rintro ⟨u, hu⟩
                      rw [← hu, List.drop_append_of_le_length (by omega)]
                      exact List.prefix_append _ _
                    · rintro ⟨u, hu⟩
                      refine ⟨u, ?_⟩
                      rw [hsp, ← hu, ← List.append_assoc, List.take_append_drop]
                  have hdd : (d :: s').drop x.1.length = ((d :: s').drop cc).drop (x.1.drop cc).length := by
                    rw [List.drop_drop]; congr 1; simp; omega
                  rw [hiff, hdd]
                  have hul : ((d :: s').drop cc).length ≤ j := by simp at hj ⊢; omega
                  generalize (d :: s').drop cc = u at *
                  cases u with
                  | nil =>
                    rw [stepT_nil, if_neg]; rfl
                    cases e : x.1.drop cc with
                    | nil => have := congrArg List.length e; simp at this; omega
                    | cons _ _ => simp
                  | cons a u =>
                    cases j with
                    | zero => simp at hul
                    | succ j =>
                      have : stepT (j + 1) (.node [(x.1.drop cc, x.2)] .nil .nil .nil []) (a :: u) = if (x.1.drop cc).isPrefixOf (a :: u) = true then stepT j x.2 ((a :: u).drop (x.1.drop cc).length) else .nil := by
                        conv => lhs; unfold stepT
                        by_cases hq : (x.1.drop cc).isPrefixOf (a :: u) = true
                        · simp [Nd.es, hq]
                        · simp only [Bool.not_eq_true] at hq; simp [Nd.es, hq]
                      rw [this]
                      split
                      · exact stepT_fuel hre _ _ _ (by simp at hul ⊢; omega) (by simp at hul ⊢; omega)
                      · rfl
                by_cases hp' : (x.1.take cc).isPrefixOf (d :: s') = true
                · rw [if_pos hp', ih hmid _ _ _ (by simp at hk ⊢; omega) (by simp at hj ⊢; omega), hback hp']
                  have hdp := drop_pre_eq hp hp'
                  rw [htl] at hdp
                  by_cases he : d :: s' = d :: s
                  · rw [if_pos he, if_pos (hdp.2 he)]
                  · rw [if_neg he, if_neg (fun e => he (hdp.1 e))]
                · rw [if_neg hp', if_neg, if_neg]
                  · intro hq
                    apply hp'
                    rw [List.isPrefixOf_iff_prefix] at hq ⊢
                    exact (List.take_prefix _ _).trans hq
                  · intro e0
                    rw [e0] at hp'
                    exact hp' hp
              · rw [if_neg hd, if_neg (by simp [hd])]

theorem Rdx.put {r : Rt} (p : List (List UInt8)) {t : Nd} (h : Rdx t) : Rdx (putT p r t) := by
  induction p generalizing t with
  | nil => exact .node h.ok h.edge h.nx h.pm h.rs
  | cons x l ih =>
    unfold putT
    split
    · exact Rdx.word (fun t ht => ih ht) _ h _
    · split
      · exact .node h.ok h.edge h.nx (ih h.pm) h.rs
      · exact .node h.ok h.edge h.nx h.pm (.node h.rs.ok h.rs.edge h.rs.nx h.rs.pm h.rs.rs)

/-- What put does to what ends where. -/
theorem den_put {r : Rt} (p : List (List UInt8)) {t : Nd} (h : Rdx t) (q : List Sg) : den (putT p r t) q = if q = norm p then den t q ++ [r] else den t q := by
  induction p generalizing t q with
  | nil =>
    have hstep : ∀ k y, stepT k (putT [] r t) y = stepT k t y := by
      intro k y
      cases k with
      | zero => rfl
      | succ k => unfold stepT putT; rfl
    cases q with
    | nil => rfl
    | cons a q => cases a <;> simp [norm, den, hstep] <;> rfl
  | cons x l ih =>
    unfold putT norm
    split
    · have hF : ∀ t, Rdx t → Rdx (putT l r t) := fun t ht => Rdx.put l ht
      obtain ⟨w1, w2, w3, _⟩ := wordT_rest (putT l r) x.length t x
      cases q with
      | nil => simp [den, w1]
      | cons a q =>
        cases a with
        | w y =>
          simp only [den]
          rw [step_word hF _ h x y _ (Nat.le_refl _) (Nat.le_refl _)]
          by_cases hy : y = x
          · subst hy
            have hst : Rdx (stepT y.length t y) := by
              have : ∀ k (t : Nd) (y : List UInt8), Rdx t → Rdx (stepT k t y) := by
                intro k
                induction k with
                | zero => intro t y h; exact h.nx
                | succ k ihk =>
                  intro t y h
                  unfold stepT
                  split
                  · exact h.nx
                  · split
                    · exact .nil
                    · rename_i e he
                      exact ihk _ _ (h.edge _ (List.mem_of_find?_eq_some he))
              exact this _ _ _ h
            rw [if_pos rfl, ih hst]
            simp
          · rw [if_neg hy, if_neg]
            intro e
            injection e with e1 e2
            injection e1 with e3
            exact hy e3
        | p => simp [den, w2]
        | r => simp [den, w3]
    · split
      · have hstep : ∀ k y, stepT k (.node t.es t.nx (putT l r t.pm) t.rs t.en) y = stepT k t y := by
          intro k y
          cases k with
          | zero => rfl
          | succ k => unfold stepT; rfl
        cases q with
        | nil => simp [den, Nd.en] <;> (cases t <;> rfl)
        | cons a q =>
          cases a with
          | w y => simp [den, hstep]
          | p =>
            show den (putT l r t.pm) q = if (Sg.p :: q) = (Sg.p :: norm l) then den t.pm q ++ [r] else den t.pm q
            rw [ih h.pm]
            simp
          | r => simp [den]; rfl
      · have hstep : ∀ k y, stepT k (.node t.es t.nx t.pm (.node t.rs.es t.rs.nx t.rs.pm t.rs.rs (t.rs.en ++ [r])) t.en) y = stepT k t y := by
          intro k y
          cases k with
          | zero => rfl
          | succ k => unfold stepT; rfl
        cases q with
        | nil => simp [den, Nd.en] <;> (cases t <;> rfl)
        | cons a q =>
          cases a with
          | w y => simp [den, hstep]
          | p => simp [den]; rfl
          | r =>
            by_cases hq : q = []
            · subst hq; simp [den]; rfl
            · simp [den, hq]

/-- The normalised patterns that a path has, the strongest first. -/
def cands : List (List UInt8) → List (List Sg)
  | [] => [[]]
  | x :: l => (if x = [] then [] else (cands l).map (.w x :: ·) ++ (cands l).map (.p :: ·)) ++ [[.r]]

theorem den_nil (q : List Sg) : den .nil q = [] := by
  induction q with
  | nil => rfl
  | cons a q ih =>
    cases a with
    | w x => simp only [den, stepT_none]; exact ih
    | p => exact ih
    | r => simp [den, Nd.rs, Nd.en]

theorem visT_den (l : List (List UInt8)) (t : Nd) : (visT l t).flatten = ((cands l).map (den t)).flatten := by
  induction l generalizing t with
  | nil =>
    cases t with
    | nil => simp [visT, cands, den_nil]
    | node es nx pm rs en =>
      unfold visT cands
      by_cases h : en = [] <;> simp [h, den, Nd.en]
  | cons x l ih =>
    cases t with
    | nil => 
      have : (den Nd.nil) = fun _ => [] := by funext q; exact den_nil q
      simp [visT, this]
    | node es nx pm rs en =>
      have key : ∀ Z : Nd, ((cands l).map (den (.node es nx pm Z en) ∘ (Sg.w x :: ·))).flatten ++ ((cands l).map (den (.node es nx pm Z en) ∘ (Sg.p :: ·))).flatten = (visT l (stepT x.length (.node es nx pm Z en) x) ++ visT l pm).flatten := by
        intro Z
        rw [List.flatten_append, ih, ih]
        rfl
      cases rs
      all_goals
        unfold visT cands
        by_cases hx : x = []
        · simp [hx, den, Nd.rs, Nd.en]
        · simp only [hx, if_false]
          rw [List.flatten_append, ← key]
          simp [den, Nd.rs, Nd.en]

/-- The tree of a list of routes, and what ends where. -/
def buildT (segs : Rt → List (List UInt8)) (L : List Rt) : Nd := L.foldl (fun t r => putT (segs r) r t) .nil

theorem build_den (segs : Rt → List (List UInt8)) (L : List Rt) : Rdx (buildT segs L) ∧ ∀ q, den (buildT segs L) q = L.filter fun r => decide (norm (segs r) = q) := by
  have key : ∀ (L : List Rt) (t : Nd) (L0 : List Rt), Rdx t → (∀ q, den t q = L0.filter fun r => decide (norm (segs r) = q)) →
      Rdx (L.foldl (fun t r => putT (segs r) r t) t) ∧ ∀ q, den (L.foldl (fun t r => putT (segs r) r t) t) q = (L0 ++ L).filter fun r => decide (norm (segs r) = q) := by
    intro L
    induction L with
    | nil => intro t L0 h1 h2; simpa using ⟨h1, h2⟩
    | cons r L ih =>
      intro t L0 h1 h2
      have := ih (putT (segs r) r t) (L0 ++ [r]) (Rdx.put _ h1) (fun q => by
        rw [den_put _ h1, h2, List.filter_append]
        by_cases e : q = norm (segs r)
        · simp [e]
        · have : ¬ norm (segs r) = q := fun h => e h.symm
          simp [e, this])
      simpa using this
  unfold buildT
  simpa using key L .nil [] .nil (fun q => by rw [den_nil]; rfl)

/-- All routes that a path has, the strongest first. -/
def hitsL (segs : Rt → List (List UInt8)) (L : List Rt) (l : List (List UInt8)) : List Rt := ((cands l).map fun q => L.filter fun r => decide (norm (segs r) = q)).flatten

theorem build_vis (segs : Rt → List (List UInt8)) (L : List Rt) (l : List (List UInt8)) : (visT l (buildT segs L)).flatten = hitsL segs L l := by
  rw [visT_den]
  unfold hitsL
  congr 1
  exact List.map_congr_left fun q _ => (build_den segs L).2 q
end Go.Proofs.YtlmoifeinglaeaaDoor
