/- Trees of routes (layer 8): copied. -/
import Derived.Test.YtlmoifeinglaeaaDoorTrieC
import Derived.Test.YtlmoifeinglaeaaDoorTo
import Derived.Deep.RegionWith
namespace Go.Proofs.YtlmoifeinglaeaaDoor
open Go.RowKit

/-- A node that is owned, that a call may change; what hangs below it lies in A, apart from it. -/
structure Own (w0 : World) (M : Nat) (A : Nat → Prop) (t : Nd) (b : Nat) (eo : Option Addr) (ecap : Nat) (vn vp vr ro : Option Addr) (l : List Ed) (w : World) : Prop where
  st : St w0 (SP.blk b (.cells #[.slice eo l.length ecap, .pointer vn, .pointer vp, .pointer vr, .slice ro t.en.length t.en.length] 92) * (slo 107 2 eo l.length ecap (edC l) * 1)) w
  bA : ¬ A b
  eA : ∀ g off, eo = some ⟨g, off, none⟩ → ¬ A g
  he : t.es = edT l
  hM : l.length ≤ M
  hM2 : t.en.length ≤ M
  hx : ∀ t ∈ l, t.1.length ≤ 1000000
  hl : ∀ t ∈ l, Rep w M A t.2.1 t.2.2
  hn : Rep w M A vn t.nx
  hp : Rep w M A vp t.pm
  hr : Rep w M A vr t.rs
  hen : Cells w 3 ro t.en.length (rtsC t.en)
  henA : ∀ g off, ro = some ⟨g, off, none⟩ → A g
  hrn : ro = none → t.en.length = 0

set_option maxRecDepth 100000 in
set_option maxHeartbeats 4000000 in
theorem copied_nil (M : Nat) (A : Nat → Prop) (w : World) :
    Calls Tryd.prog 45 #[.pointer none] w fun e w' => ∃ b eo ecap vn vp vr ro l, e = .returned (.pointer (adr b)) ∧ Own w M (fun x => A x ∧ x < w.heap.size) .nil b eo ecap vn vp vr ro l w' := by
  have hS := (St.refl w).alloc (.cells #[.slice none 0 0, .pointer none, .pointer none, .pointer none, .slice none 0 0] 92)
  have HS := Lib.hid hS
  clear hS
  go_enter Tryd.func45, Tryd.ntmps45
  go_wp2_with fail
  go_ret
  refine ⟨w.heap.size, none, 0, none, none, none, none, [], rfl, ⟨HS.out.eq (by simp [edC, slo_nil, SP.mul_one, Nd.en]), by simp, by simp, rfl, Nat.zero_le _, Nat.zero_le _, by simp, by simp, .nil, .nil, .nil, ⟨by simp [Nd.en, rtsC], .inl ⟨rfl, rfl⟩⟩, by simp, fun _ => rfl⟩⟩

set_option maxRecDepth 100000 in
set_option maxHeartbeats 4000000 in
theorem copied_node (M : Nat) (hMM : M ≤ 1000000) (w : World) {b : Nat} {eo ro vn vp vr : Option Addr} {ecap rcap : Nat} {l : List Ed} {en : List Rt}
    (hb : w.heap[b]? = some (.cells #[.slice eo l.length ecap, .pointer vn, .pointer vp, .pointer vr, .slice ro en.length rcap] 92 (0, 0)))
    (hc : Cells w 2 eo l.length (edC l)) (hcap : eo = none → ecap = 0) (hM : l.length ≤ M) (hrc : en.length ≤ rcap) (hrn : ro = none → rcap = 0) (hrM : rcap ≤ maxLen) :
    Calls Tryd.prog 45 #[.pointer (adr b)] w fun e w' => ∃ b' eo' ecap', e = .returned (.pointer (adr b')) ∧
      St w (SP.blk b' (.cells #[.slice eo' l.length ecap', .pointer vn, .pointer vp, .pointer vr, .slice ro en.length en.length] 92) * (slo 107 2 eo' l.length ecap' (edC l) * 1)) w' := by
  have c0 : w.cell? ⟨b, 0, none⟩ = some (.slice eo l.length ecap) := by simp [World.cell?, hb]
  have c1 : w.cell? ⟨b, 1, none⟩ = some (.pointer vn) := by simp [World.cell?, hb]
  have c2 : w.cell? ⟨b, 2, none⟩ = some (.pointer vp) := by simp [World.cell?, hb]
  have c3 : w.cell? ⟨b, 3, none⟩ = some (.pointer vr) := by simp [World.cell?, hb]
  have c4 : w.cell? ⟨b, 4, none⟩ = some (.slice ro en.length rcap) := by simp [World.cell?, hb]
  have hlt : b < w.heap.size := (Array.getElem?_eq_some_iff.1 hb).1
  have hS := (St.refl w).alloc (.cells #[.slice eo l.length ecap, .pointer vn, .pointer vp, .pointer vr, .slice ro en.length rcap] 92)
  have hcl := clone_any eo l.length ecap (edC l) (w.alloc (.cells #[.slice eo l.length ecap, .pointer vn, .pointer vp, .pointer vr, .slice ro en.length rcap] 92)) (hc.step hS) hcap (by omega) (edC_one l)
  have HS := Lib.hid hS
  clear hS hb hc hcap
  unfold adr
  go_enter Tryd.func45, Tryd.ntmps45
  go_wp2_with (go_at_call 55; refine hcl.mono ?_; rintro e w2 ⟨eo2, ecap2, rfl, -, hS2⟩; have HS2 := Lib.hid (HS.out.rebase hS2); have q0 := (HS2.out.eq (SP.mul_left_comm _ _ _)).cell 0; have qf := fun i => (HS2.out.eq (SP.mul_left_comm _ _ _)).free i; have p4 := (HS2.out.below.cell (p := ⟨b, 4, none⟩) hlt).trans c4; have hneb : b ≠ w.heap.size := Nat.ne_of_lt hlt; simp at q0; clear hS2)
  have HS3 := Lib.hid ((HS2.out.eq (SP.mul_left_comm _ _ _)).setCell (i := 0) (.slice eo2 l.length ecap2))
  have p4' : (w2.setCell ⟨w.heap.size, 0, none⟩ (.slice eo2 l.length ecap2)).cell? ⟨b, 4, none⟩ = some (.slice ro en.length rcap) := by
    have hh : (w2.setCell ⟨w.heap.size, 0, none⟩ (.slice eo2 l.length ecap2)).heap[b]? = w2.heap[b]? := Below.heap_setCell _ _ _ _ hneb
    simp only [World.cell?, hh] at p4 ⊢
    exact p4
  have r4 := HS3.out.cell 4
  have rf := HS3.out.free 4
  simp at r4
  clear HS2 q0 qf p4 hcl HS c0 c1 c2 c3 c4 hlt hneb
  generalize w2.setCell ⟨w.heap.size, 0, none⟩ (.slice eo2 l.length ecap2) = w3 at *
  generalize w.heap.size = nb at *
  cases ro with
  | none =>
    obtain rfl := hrn rfl
    obtain hen0 : en.length = 0 := by omega
    obtain rfl : en = [] := List.eq_nil_of_length_eq_zero hen0
    clear hen0
    go_region
    have HS4 := Lib.hid ((HS3.out.setCell (i := 4) (.slice none 0 0)).drew)
    go_wp2_with fail
    go_ret
    first | exact ⟨nb, rfl, eo2, ecap2, HS4.out⟩ | exact ⟨nb, eo2, ecap2, rfl, HS4.out⟩
  | some ra =>
    have h1 : ((en.length : Nat) : Int) ≤ rcap := by omega
    go_region
    have HS4 := Lib.hid ((HS3.out.setCell (i := 4) (.slice (some ra) en.length en.length)).drew)
    go_wp2_with fail
    go_ret
    first | exact ⟨nb, rfl, eo2, ecap2, HS4.out⟩ | exact ⟨nb, eo2, ecap2, rfl, HS4.out⟩

theorem copied_any (M : Nat) (hMM : M ≤ 1000000) (A : Nat → Prop) (v : Option Addr) (t : Nd) (w : World) (h : Rep w M A v t) :
    Calls Tryd.prog 45 #[.pointer v] w fun e w' => ∃ b eo ecap vn vp vr ro l, e = .returned (.pointer (adr b)) ∧ Own w M (fun x => A x ∧ x < w.heap.size) t b eo ecap vn vp vr ro l w' := by
  cases h.more (Nat.le_refl M) (B := fun x => A x ∧ x < w.heap.size) (fun b h1 h2 => ⟨h1, h2⟩) with
  | nil => exact copied_nil M A w
  | @node b eo ro vn vp vr ecap rcap l es nx pm rs en hb hA he hc hcA hcap hM hM2 hx hl hn hp hr hen henA hrc hrn hrM =>
    refine (copied_node M hMM w hb hc hcap hM hrc hrn hrM).mono ?_
    rintro e w' ⟨b', eo', ecap', rfl, hS⟩
    refine ⟨b', eo', ecap', vn, vp, vr, ro, l, rfl, ⟨hS, fun h => ?_, fun g off e h => ?_, he, hM, hM2, hx, fun t ht => (hl t ht).step hS, hn.step hS, hp.step hS, hr.step hS, hen.step hS, henA, fun e => by have := hrn e; simp only [Nd.en]; omega⟩⟩
    · have := hS.ge; omega
    · rcases hS.drop.slo_open with ⟨h2, _⟩ | ⟨g', off', cur, e', _, _, hS'⟩
      · rw [h2] at e; cases e
      · rw [e'] at e; cases e; have := hS'.ge; omega

theorem keeps_set {A : Nat → Prop} {w : World} {b i : Nat} {v : Value} (h : ¬ A b) : Keeps A w (w.setCell ⟨b, i, none⟩ v) := fun x o hx ho => by
  have hne : x ≠ b := fun e => h (e ▸ hx)
  rw [Below.heap_setCell w ⟨b, i, none⟩ v x hne]; exact ho

/-- Where the owned blocks lie. -/
theorem Own.lies {w0 w : World} {M : Nat} {A : Nat → Prop} {t : Nd} {b ecap : Nat} {eo vn vp vr ro : Option Addr} {l : List Ed} (h : Own w0 M A t b eo ecap vn vp vr ro l w) :
    (w0.heap.size ≤ b ∧ b < w.heap.size) ∧ ∀ g off, eo = some ⟨g, off, none⟩ → w0.heap.size ≤ g ∧ g < w.heap.size := by
  refine ⟨⟨h.st.ge, h.st.lt⟩, fun g off e => ?_⟩
  rcases h.st.drop.slo_open with ⟨h2, _⟩ | ⟨g', off', cur, e', _, _, hS'⟩
  · rw [h2] at e; cases e
  · rw [e'] at e; cases e; exact ⟨hS'.ge, hS'.lt⟩

/-- A node that was owned, shut. -/
theorem Own.shut {w0 w : World} {M : Nat} (hMM : M ≤ 1000000) {A B : Nat → Prop} {t : Nd} {b ecap : Nat} {eo vn vp vr ro : Option Addr} {l : List Ed} (h : Own w0 M A t b eo ecap vn vp vr ro l w) (hB : ∀ x, A x ∨ w0.heap.size ≤ x → B x) :
    Rep w M B (adr b) (.node t.es t.nx t.pm t.rs t.en) := by
  have hb := h.st.blk
  have hs := h.st.drop
  have hm : ∀ {v : Option Addr} {u : Nd}, Rep w M A v u → Rep w M B v u := fun k => k.more (Nat.le_refl M) fun b hb _ => hB b (.inl hb)
  refine .node hb (hB _ (.inr h.st.ge)) h.he hs.cells (fun g off e => ?_) (fun e => by subst e; exact hs.slo_none) h.hM h.hM2 h.hx (fun t ht => hm (h.hl t ht)) (hm h.hn) (hm h.hp) (hm h.hr) h.hen (fun g off e => hB _ (.inl (h.henA g off e))) (Nat.le_refl _) (fun e => h.hrn e) ?_
  · rcases hs.slo_open with ⟨h2, _⟩ | ⟨g', off', cur, e', _, _, hS'⟩
    · rw [h2] at e; cases e
    · rw [e'] at e; cases e; exact hB _ (.inr hS'.ge)
  · have := h.hM2
    unfold maxLen
    omega
end Go.Proofs.YtlmoifeinglaeaaDoor
