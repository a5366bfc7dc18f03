/- Trees of routes (layer 8): trees, and how they lie in memory. -/
import Derived.Test.YtlmoifeinglaeaaDoorTrieB
namespace Go.Proofs.YtlmoifeinglaeaaDoor
open Go.RowKit

/-- A tree, or none. -/
inductive Nd where
  | nil
  | node (es : List (List UInt8 × Nd)) (nx pm rs : Nd) (en : List Rt)
instance : Inhabited Nd := ⟨.nil⟩

def Nd.es : Nd → List (List UInt8 × Nd)
  | .nil => []
  | .node es _ _ _ _ => es
def Nd.nx : Nd → Nd
  | .nil => .nil
  | .node _ n _ _ _ => n
def Nd.pm : Nd → Nd
  | .nil => .nil
  | .node _ _ p _ _ => p
def Nd.rs : Nd → Nd
  | .nil => .nil
  | .node _ _ _ r _ => r
def Nd.en : Nd → List Rt
  | .nil => []
  | .node _ _ _ _ e => e

/-- An edge as it lies there: its text, its pointer, its tree. -/
abbrev Ed := List UInt8 × Option Addr × Nd
def edC (l : List Ed) : List Value := l.flatMap fun t => [.string (ba t.1), .pointer t.2.1]
def edT (l : List Ed) : List (List UInt8 × Nd) := l.map fun t => (t.1, t.2.2)
def adr (b : Nat) : Option Addr := some ⟨b, 0, none⟩

/-- The pointer is a tree in this world; no node has more than M edges or routes; all blocks of it are some of A. -/
inductive Rep (w : World) (M : Nat) (A : Nat → Prop) : Option Addr → Nd → Prop where
  | nil : Rep w M A none .nil
  | node {b : Nat} {eo ro vn vp vr : Option Addr} {ecap rcap : Nat} {l : List Ed} {es : List (List UInt8 × Nd)} {nx pm rs : Nd} {en : List Rt}
      (hb : w.heap[b]? = some (.cells #[.slice eo l.length ecap, .pointer vn, .pointer vp, .pointer vr, .slice ro en.length rcap] 92 (0, 0)))
      (hA : A b) (he : es = edT l) (hc : Cells w 2 eo l.length (edC l)) (hcA : ∀ g off, eo = some ⟨g, off, none⟩ → A g) (hcap : eo = none → ecap = 0) (hM : l.length ≤ M) (hM2 : en.length ≤ M) (hx : ∀ t ∈ l, t.1.length ≤ 1000000)
      (hl : ∀ t ∈ l, Rep w M A t.2.1 t.2.2)
      (hn : Rep w M A vn nx) (hp : Rep w M A vp pm) (hr : Rep w M A vr rs) (hen : Cells w 3 ro en.length (rtsC en)) (henA : ∀ g off, ro = some ⟨g, off, none⟩ → A g) (hrc : en.length ≤ rcap) (hrn : ro = none → rcap = 0) (hrM : rcap ≤ maxLen) :
      Rep w M A (adr b) (.node es nx pm rs en)

/-- Nothing of A turns. -/
def Keeps (A : Nat → Prop) (w w' : World) : Prop := ∀ b o, A b → w.heap[b]? = some o → w'.heap[b]? = some o

theorem Cells.keep {w w' : World} {A : Nat → Prop} {sz n : Nat} {ao : Option Addr} {xs : List Value} (h : Cells w sz ao n xs) (hA : ∀ g off, ao = some ⟨g, off, none⟩ → A g) (hk : Keeps A w w') : Cells w' sz ao n xs := by
  obtain ⟨h1, h2 | ⟨g, off, e, hg, hc⟩⟩ := h
  · exact ⟨h1, .inl h2⟩
  · have hb := hk g _ (hA g off e) (Array.getElem?_eq_getElem hg)
    refine ⟨h1, .inr ⟨g, off, e, (Array.getElem?_eq_some_iff.1 hb).1, fun j hj => ?_⟩⟩
    rw [← hc j hj]
    simp only [World.cell?, hb, Array.getElem?_eq_getElem hg]

theorem Rep.keep {w w' : World} {M : Nat} {A : Nat → Prop} {v : Option Addr} {t : Nd} (h : Rep w M A v t) (hk : Keeps A w w') : Rep w' M A v t := by
  induction h with
  | nil => exact .nil
  | node hb hA he hc hcA hcap hM hM2 hx _ _ _ _ hen henA hrc hrn hrM ihl ihn ihp ihr =>
    exact .node (hk _ _ hA hb) hA he (hc.keep hcA hk) hcA hcap hM hM2 hx ihl ihn ihp ihr (hen.keep henA hk) henA hrc hrn hrM

theorem Keeps.of_st {A : Nat → Prop} {w w' : World} {P : SP} (hS : St w P w') : Keeps A w w' := fun b o _ hb => by
  rw [hS.old (Array.getElem?_eq_some_iff.1 hb).1]; exact hb
theorem Rep.step {w w' : World} {M : Nat} {A : Nat → Prop} {v : Option Addr} {t : Nd} {P : SP} (h : Rep w M A v t) (hS : St w P w') : Rep w' M A v t := h.keep (.of_st hS)

theorem Rep.more {w : World} {M N : Nat} {A B : Nat → Prop} {v : Option Addr} {t : Nd} (h : Rep w M A v t) (hle : M ≤ N) (hAB : ∀ b, A b → b < w.heap.size → B b) : Rep w N B v t := by
  induction h with
  | nil => exact .nil
  | node hb hA he hc hcA hcap hM hM2 hx _ _ _ _ hen henA hrc hrn hrM ihl ihn ihp ihr =>
    refine .node hb (hAB _ hA (Array.getElem?_eq_some_iff.1 hb).1) he hc (fun g off e => ?_) hcap (by omega) (by omega) hx ihl ihn ihp ihr hen (fun g off e => ?_) hrc hrn hrM
    · obtain ⟨_, ⟨h2, _⟩ | ⟨g', off', e', hg, _⟩⟩ := hc
      · rw [h2] at e; cases e
      · rw [e'] at e; cases e; exact hAB _ (hcA _ _ e') hg
    · obtain ⟨_, ⟨h2, _⟩ | ⟨g', off', e', hg, _⟩⟩ := hen
      · rw [h2] at e; cases e
      · rw [e'] at e; cases e; exact hAB _ (henA _ _ e') hg

theorem edC_length (l : List Ed) : (edC l).length = l.length * 2 := by
  induction l with
  | nil => rfl
  | cons x r ih => simp only [edC, List.flatMap_cons, List.length_append, List.length_cons, List.length_nil] at ih ⊢; omega
theorem edC_get (l : List Ed) : ∀ (j : Nat) (h : j < l.length), (edC l)[j * 2]? = some (.string (ba l[j].1)) ∧ (edC l)[j * 2 + 1]? = some (.pointer l[j].2.1) := by
  induction l with
  | nil => intro j h; simp at h
  | cons x r ih =>
    intro j h
    match j, h with
    | 0, _ => exact ⟨rfl, rfl⟩
    | j + 1, h =>
      have hj : j < r.length := by simpa using h
      have := ih j hj
      simp only [edC, List.flatMap_cons] at this ⊢
      refine ⟨?_, ?_⟩
      · rw [List.getElem?_append_right (by simp; omega), show (j + 1) * 2 - [Value.string (ba x.1), Value.pointer x.2.1].length = j * 2 by simp; omega]; exact this.1
      · rw [List.getElem?_append_right (by simp; omega), show (j + 1) * 2 + 1 - [Value.string (ba x.1), Value.pointer x.2.1].length = j * 2 + 1 by simp; omega]; exact this.2
theorem edC_one (l : List Ed) : ∀ u ∈ edC l, u.oneCell' = true := by
  intro u hu
  simp only [edC, List.mem_flatMap] at hu
  obtain ⟨t, ht, hu⟩ := hu
  simp at hu
  rcases hu with rfl | rfl <;> rfl
end Go.Proofs.YtlmoifeinglaeaaDoor
