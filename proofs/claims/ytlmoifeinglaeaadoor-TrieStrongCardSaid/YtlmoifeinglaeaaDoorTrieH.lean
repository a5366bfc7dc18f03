/- Trees of routes (layer 8): word, what its three ways leave. No walk in sight. -/
import Derived.Test.YtlmoifeinglaeaaDoorTrieG
import Derived.Test.YtlmoifeinglaeaaDoorKeep
namespace Go.Proofs.YtlmoifeinglaeaaDoor
open Go.RowKit

theorem Cells.edge {w : World} {eo : Option Addr} {l : List Ed} (h : Cells w 2 eo l.length (edC l)) {k : Nat} (hk : k < l.length) :
    ∃ g off, eo = some ⟨g, off, none⟩ ∧ w.cell? ⟨g, off + k * 2, none⟩ = some (.string (ba l[k].1)) ∧ w.cell? ⟨g, off + k * 2 + 1, none⟩ = some (.pointer l[k].2.1) := by
  obtain ⟨h1, ⟨_, h2⟩ | ⟨g, off, e, hg, hc⟩⟩ := h
  · omega
  · obtain ⟨e1, e2⟩ := edC_get l k hk
    exact ⟨g, off, e, by rw [hc _ (by omega)]; exact e1, by rw [Nat.add_assoc, hc _ (by omega)]; exact e2⟩

theorem findE_at {l : List Ed} {s : List UInt8} {k : Nat} (hk : k < l.length) (hno : ∀ j (hj : j < l.length), j < k → comm l[j].1 s = 0) (hz : comm l[k].1 s ≠ 0) : findE (edT l) s = some k := by
  unfold findE
  rw [List.findIdx?_eq_some_iff_getElem]
  refine ⟨by simpa [edT] using hk, by simpa [edT] using hz, fun j hj => ?_⟩
  have := hno j (by omega) hj
  simp [edT, this]
theorem findE_no {l : List Ed} {s : List UInt8} (hno : ∀ j (hj : j < l.length), comm l[j].1 s = 0) : findE (edT l) s = none := by
  unfold findE
  rw [List.findIdx?_eq_none_iff]
  intro x hx
  simp only [edT, List.mem_map] at hx
  obtain ⟨t, ht, rfl⟩ := hx
  obtain ⟨j, hj, rfl⟩ := List.mem_iff_getElem.1 ht
  simp [hno j hj]
theorem edT_getD {l : List Ed} {k : Nat} (hk : k < l.length) : (edT l).getD k ([], .nil) = (l[k].1, l[k].2.2) := by simp [edT, List.getD_eq_getElem?_getD, hk]

section
variable {w w1 w5 w6 : World} {M : Nat} {A : Nat → Prop} {t : Nd} {b ecap : Nat} {eo vn vp vr ro : Option Addr} {l : List Ed} {P1 R : SP} {F : Nd → Nd} {k0 : Nat} {s : List UInt8}

/-- Where all that hangs below lies. -/
def Bel (w w1 : World) (A : Nat → Prop) (x : Nat) : Prop := (A x ∧ x < w.heap.size) ∨ w1.heap.size ≤ x

/-- A node whose edges have turned, shut. -/
theorem word_shut (hMM : M + 1 ≤ 1000000) (hO : Own w M (fun x => A x ∧ x < w.heap.size) t b eo ecap vn vp vr ro l w1) (h15 : St w1 P1 w5) (hk56 : Keeps (Bel w w1 A) w5 w6) {eo' : Option Addr} {ecap' : Nat} {l' : List Ed}
    (h6 : St w (SP.blk b (.cells #[.slice eo' l'.length ecap', .pointer vn, .pointer vp, .pointer vr, .slice ro t.en.length t.en.length] 92) * (slo 107 2 eo' l'.length ecap' (edC l') * R)) w6)
    (hM : l'.length ≤ M + 1) (hx : ∀ u ∈ l', u.1.length ≤ 1000000) (hl : ∀ u ∈ l', u ∈ l ∨ Rep w6 (M + 1) (Bel w w1 A) u.2.1 u.2.2) : Made w (M + 1) A (t.edges (edT l')) (.returned (.pointer (adr b))) w6 := by
  have hw1 := hO.st.size
  have hm : ∀ {v : Option Addr} {u : Nd}, Rep w1 M (fun x => A x ∧ x < w.heap.size) v u → Rep w6 (M + 1) (Bel w w1 A) v u := fun r => ((r.step h15).more (Nat.le_succ M) (B := Bel w w1 A) fun x hx _ => .inl hx).keep hk56
  refine made_of hMM (A := A) (B := Bel w w1 A) (t' := t.edges (edT l')) h6 rfl hM (Nat.le_succ_of_le hO.hM2) hx (fun u hu => ?_) (hm hO.hn) (hm hO.hp) (hm hO.hr) (((hO.hen.step h15).keep (A := Bel w w1 A) (fun g off e => .inl (hO.henA g off e)) hk56)) (fun g off e => .inl (hO.henA g off e)) hO.hrn (fun x hx => ?_)
  · rcases hl u hu with h | h
    · exact hm (hO.hl u h)
    · exact h
  · rcases hx with hx | hx
    · exact .inl hx.1
    · exact .inr (by omega)

/-- The edge's block is none of those below. -/
theorem Own.apart {g off : Nat} (hO : Own w M (fun x => A x ∧ x < w.heap.size) t b eo ecap vn vp vr ro l w1) (e : eo = some ⟨g, off, none⟩) : ¬ Bel w w1 A g := by
  rintro (h | h)
  · exact hO.eA g off e h
  · have := (hO.lies.2 g off e).2; omega
theorem Own.apartb (hO : Own w M (fun x => A x ∧ x < w.heap.size) t b eo ecap vn vp vr ro l w1) : ¬ Bel w w1 A b := by
  rintro (h | h)
  · exact hO.bA h
  · have := hO.lies.1.2; omega

theorem word_full {g off k b2 : Nat} (hMM : M + 1 ≤ 1000000) (hs : s ≠ []) (hO : Own w M (fun x => A x ∧ x < w.heap.size) t b (some ⟨g, off, none⟩) ecap vn vp vr ro l w1) (h15 : St w1 P1 w5) (hk : k < l.length)
    (hno : ∀ j (hj : j < l.length), j < k → comm l[j].1 s = 0) (hz : comm l[k].1 s ≠ 0) (hfull : comm l[k].1 s = l[k].1.length)
    (hR : Rep w5 (M + 1) (Bel w w1 A) (adr b2) (wordT F k0 l[k].2.2 (s.drop l[k].1.length)))
    (h5 : St w (SP.blk b (.cells #[.slice (some ⟨g, off, none⟩) l.length ecap, .pointer vn, .pointer vp, .pointer vr, .slice ro t.en.length t.en.length] 92) * (slo 107 2 (some ⟨g, off, none⟩) l.length ecap (edC l) * R)) w5) :
    Made w (M + 1) A (wordT F (k0 + 1) t s) (.returned (.pointer (adr b))) (w5.setCell ⟨g, off + k * 2 + 1, none⟩ (.pointer (adr b2))) := by
  have hf := findE_at hk hno hz
  have hg := edT_getD hk
  have e : wordT F (k0 + 1) t s = t.edges (edT (l.set k (l[k].1, adr b2, wordT F k0 l[k].2.2 (s.drop l[k].1.length)))) := by
    conv => lhs; unfold wordT
    rw [if_neg hs, hO.he, hf]
    simp only [hg]
    rw [if_pos hfull, hfull, edT_set]
  rw [e]
  have hkeep : Keeps (Bel w w1 A) w5 (w5.setCell ⟨g, off + k * 2 + 1, none⟩ (.pointer (adr b2))) := keeps_set (hO.apart rfl)
  have h6 := ((h5.eq (SP.mul_left_comm _ _ _)).slo_set (j := k * 2 + 1) (by omega) (.pointer (adr b2))).eq (SP.mul_left_comm _ _ _)
  rw [← edC_set1 l k (adr b2) (wordT F k0 l[k].2.2 (s.drop l[k].1.length)) hk, ← Nat.add_assoc] at h6
  refine word_shut hMM hO h15 hkeep (eo' := some ⟨g, off, none⟩) (ecap' := ecap) (R := R) (by rw [List.length_set]; exact h6) (by rw [List.length_set]; exact Nat.le_succ_of_le hO.hM) (fun u hu => ?_) (fun u hu => ?_)
  · rcases List.mem_or_eq_of_mem_set hu with h | rfl
    · exact hO.hx u h
    · exact hO.hx l[k] (List.getElem_mem hk)
  · rcases List.mem_or_eq_of_mem_set hu with h | rfl
    · exact .inl h
    · exact .inr (hR.keep hkeep)

theorem word_part {g off k b2 : Nat} (hMM : M + 1 ≤ 1000000) (hs : s ≠ []) (hO : Own w M (fun x => A x ∧ x < w.heap.size) t b (some ⟨g, off, none⟩) ecap vn vp vr ro l w1) (h15 : St w1 P1 w5) (hk : k < l.length)
    (hno : ∀ j (hj : j < l.length), j < k → comm l[j].1 s = 0) (hz : comm l[k].1 s ≠ 0) (hfull : ¬ comm l[k].1 s = l[k].1.length)
    (hR : Rep w5 (M + 1) (Bel w w1 A) (adr b2) (wordT F k0 (.node [(l[k].1.drop (comm l[k].1 s), l[k].2.2)] .nil .nil .nil []) (s.drop (comm l[k].1 s))))
    (h5 : St w (SP.blk b (.cells #[.slice (some ⟨g, off, none⟩) l.length ecap, .pointer vn, .pointer vp, .pointer vr, .slice ro t.en.length t.en.length] 92) * (slo 107 2 (some ⟨g, off, none⟩) l.length ecap (edC l) * R)) w5) :
    Made w (M + 1) A (wordT F (k0 + 1) t s) (.returned (.pointer (adr b))) ((w5.setCell ⟨g, off + k * 2, none⟩ (.string (ba (l[k].1.take (comm l[k].1 s))))).setCell ⟨g, off + k * 2 + 1, none⟩ (.pointer (adr b2))) := by
  have hf := findE_at hk hno hz
  have hg := edT_getD hk
  obtain ⟨T, hT⟩ : ∃ T, T = wordT F k0 (.node [(l[k].1.drop (comm l[k].1 s), l[k].2.2)] .nil .nil .nil []) (s.drop (comm l[k].1 s)) := ⟨_, rfl⟩
  have e : wordT F (k0 + 1) t s = t.edges (edT (l.set k (l[k].1.take (comm l[k].1 s), adr b2, T))) := by
    conv => lhs; unfold wordT
    rw [if_neg hs, hO.he, hf]
    simp only [hg]
    rw [if_neg hfull, edT_set, hT]
  rw [e]
  rw [← hT] at hR
  have hkeep : Keeps (Bel w w1 A) w5 ((w5.setCell ⟨g, off + k * 2, none⟩ (.string (ba (l[k].1.take (comm l[k].1 s))))).setCell ⟨g, off + k * 2 + 1, none⟩ (.pointer (adr b2))) := fun x o hx ho => keeps_set (hO.apart rfl) x o hx (keeps_set (hO.apart rfl) x o hx ho)
  have h6 := (((h5.eq (SP.mul_left_comm _ _ _)).slo_set (j := k * 2) (by omega) (.string (ba (l[k].1.take (comm l[k].1 s))))).slo_set (j := k * 2 + 1) (by omega) (.pointer (adr b2))).eq (SP.mul_left_comm _ _ _)
  rw [← edC_set l k (l[k].1.take (comm l[k].1 s)) (adr b2) T hk, ← Nat.add_assoc] at h6
  refine word_shut hMM hO h15 hkeep (eo' := some ⟨g, off, none⟩) (ecap' := ecap) (R := R) (by rw [List.length_set]; exact h6) (by rw [List.length_set]; exact Nat.le_succ_of_le hO.hM) (fun u hu => ?_) (fun u hu => ?_)
  · rcases List.mem_or_eq_of_mem_set hu with h | rfl
    · exact hO.hx u h
    · have := hO.hx l[k] (List.getElem_mem hk)
      simp only [List.length_take]
      omega
  · rcases List.mem_or_eq_of_mem_set hu with h | rfl
    · exact .inl h
    · exact .inr (hR.keep hkeep)

theorem word_new {b2 ecap' : Nat} {eo' : Option Addr} (hMM : M + 1 ≤ 1000000) (hs : s ≠ []) (hs2 : s.length ≤ 1000000) (hO : Own w M (fun x => A x ∧ x < w.heap.size) t b eo ecap vn vp vr ro l w1) (h15 : St w1 P1 w5) (hk56 : Keeps (Bel w w1 A) w5 w6)
    (hno : ∀ j (hj : j < l.length), comm l[j].1 s = 0)
    (hR : Rep w5 (M + 1) (Bel w w1 A) (adr b2) (wordT F k0 .nil []))
    (h6 : St w (SP.blk b (.cells #[.slice eo' (l.length + 1) ecap', .pointer vn, .pointer vp, .pointer vr, .slice ro t.en.length t.en.length] 92) * (slo 107 2 eo' (l.length + 1) ecap' (edC l ++ [.string (ba s), .pointer (adr b2)]) * R)) w6) :
    Made w (M + 1) A (wordT F (k0 + 1) t s) (.returned (.pointer (adr b))) w6 := by
  have hf := findE_no hno
  have e : wordT F (k0 + 1) t s = t.edges (edT (l ++ [(s, adr b2, wordT F k0 .nil [])])) := by
    conv => lhs; unfold wordT
    rw [if_neg hs, hO.he, hf]
    simp [edT]
  rw [e]
  have ec : edC (l ++ [(s, adr b2, wordT F k0 .nil [])]) = edC l ++ [.string (ba s), .pointer (adr b2)] := by simp [edC]
  rw [← ec] at h6
  refine word_shut hMM hO h15 hk56 (eo' := eo') (ecap' := ecap') (R := R) (by rw [List.length_append]; exact h6) (by rw [List.length_append]; exact Nat.succ_le_succ hO.hM) (fun u hu => ?_) (fun u hu => ?_)
  · simp at hu
    rcases hu with h | rfl
    · exact hO.hx u h
    · exact hs2
  · simp at hu
    rcases hu with h | rfl
    · exact .inl h
    · exact .inr (hR.keep hk56)
end

theorem cells_two (w : World) (a b : Value) (T : TypeId) : ∀ (j : Nat) (u : Value), [a, b][j]? = some u → (w.alloc (.cells #[a, b] T)).cell? ((⟨w.heap.size, 0, none⟩ : Addr).add j) = some u := by
  intro j u hu
  rw [add_none]
  have h := ((St.refl w).alloc (.cells #[a, b] T)).cell (0 + j)
  rw [h, Nat.zero_add]
  simpa using hu
theorem two_cell (a : ByteArray) (p : Option Addr) : ∀ u ∈ [Value.string a, .pointer p], u.oneCell' = true := by
  intro u hu
  simp at hu
  rcases hu with rfl | rfl <;> rfl

/-- A node with one edge, new. -/
theorem mid_rep {w : World} {M : Nat} {A : Nat → Prop} (hM : 1 ≤ M) (a : List UInt8) (ha : a.length ≤ 1000000) (v : Option Addr) (T : Nd) (h : Rep w M A v T) :
    Rep ((w.alloc (.cells #[.string (ba a), .pointer v] 107)).alloc (.cells #[.slice (some ⟨w.heap.size, 0, none⟩) 1 1, .pointer none, .pointer none, .pointer none, .slice none 0 0] 92)) M (fun y => A y ∨ w.heap.size ≤ y) (adr (w.heap.size + 1)) (.node [(a, T)] .nil .nil .nil []) := by
  have h1 := (St.refl w).alloc (.cells #[.string (ba a), .pointer v] 107)
  have h2 := h1.alloc (.cells #[.slice (some ⟨w.heap.size, 0, none⟩) 1 1, .pointer none, .pointer none, .pointer none, .slice none 0 0] 92)
  have hsz : (w.alloc (.cells #[.string (ba a), .pointer v] 107)).heap.size = w.heap.size + 1 := by simp
  rw [hsz] at h2
  have hc := fun i => (h2.eq (SP.mul_left_comm _ _ _)).cell i
  have hlt := (h2.eq (SP.mul_left_comm _ _ _)).lt
  refine .node (l := [(a, v, T)]) (eo := some ⟨w.heap.size, 0, none⟩) (ecap := 1) (ro := none) (rcap := 0) h2.blk (.inr (by omega)) rfl ⟨rfl, .inr ⟨w.heap.size, 0, rfl, hlt, fun j hj => ?_⟩⟩ (fun g off e => by cases e; exact .inr (Nat.le_refl _)) (fun e => by cases e) hM (Nat.zero_le _) (fun t ht => by simp at ht; subst ht; exact ha) (fun t ht => by
      simp at ht; subst ht; exact (h.step h2).more (Nat.le_refl _) fun y hy _ => .inl hy) .nil .nil .nil ⟨rfl, .inl ⟨rfl, rfl⟩⟩ (fun g off e => by cases e) (Nat.le_refl _) (fun _ => rfl) (Nat.zero_le _)
  rw [Nat.zero_add, hc]
  simp [edC]
end Go.Proofs.YtlmoifeinglaeaaDoor
