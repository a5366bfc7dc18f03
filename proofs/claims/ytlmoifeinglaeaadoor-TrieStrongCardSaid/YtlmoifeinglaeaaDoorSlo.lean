/- A slice that is owned (in the separation logic of Sep): its value, its cells, reslicing, append as a law for the walk. No program in sight. -/
import Derived.Test.YtlmoifeinglaeaaDoorSep
import Derived.ArgAppend
namespace Go.Proofs.YtlmoifeinglaeaaDoor
open Go.RowKit

/-- The slice value '.slice ao n cap' of elements of type E (sz cells each) owns its array; its elements' cells are xs. -/
def slo (E : TypeId) (sz : Nat) (ao : Option Addr) (n cap : Nat) (xs : List Value) : SP := fun h =>
  xs.length = n * sz ∧ n ≤ cap ∧ cap ≤ maxLen ∧
  ((ao = none ∧ cap = 0 ∧ h = Hp.nil) ∨
   ∃ g off cur, ao = some ⟨g, off, none⟩ ∧ off + cap * sz ≤ cur.size ∧ (∀ j, j < n * sz → cur[off + j]? = xs[j]?) ∧ h = Hp.one g (.cells cur E (0, 0)))

theorem slo_nil (E : TypeId) (sz : Nat) : slo E sz none 0 0 [] = 1 := by
  funext h
  apply propext
  constructor
  · rintro ⟨_, _, _, h | ⟨g, off, cur, h, _⟩⟩
    · exact h.2.2
    · cases h
  · intro hh
    exact ⟨by simp, Nat.le_refl _, by simp [maxLen], .inl ⟨rfl, rfl, hh⟩⟩

section
variable {w0 w : World} {R : SP} {E : TypeId} {sz : Nat} {ao : Option Addr} {n cap : Nat} {xs : List Value}

theorem St.slo_len (h : St w0 (slo E sz ao n cap xs * R) w) : xs.length = n * sz ∧ n ≤ cap ∧ cap ≤ maxLen := by
  obtain ⟨h1, h2, h3, h4, hh, ⟨a, b, hd, rfl, ho, c, d, hd', rfl, hp, hr⟩, hs⟩ := h
  exact ⟨hp.1, hp.2.1, hp.2.2.1⟩

theorem St.slo_open (h : St w0 (slo E sz ao n cap xs * R) w) :
    (ao = none ∧ n = 0 ∧ cap = 0 ∧ xs = [] ∧ St w0 R w) ∨
    ∃ g off cur, ao = some ⟨g, off, none⟩ ∧ off + cap * sz ≤ cur.size ∧ (∀ j, j < n * sz → cur[off + j]? = xs[j]?) ∧ St w0 (SP.blk g (.cells cur E (0, 0)) * R) w := by
  have hdrop := h.drop
  obtain ⟨h1, h2, h3, h4, hh, ⟨a, b, hd, rfl, ho, c, d, hd', rfl, hp, hr⟩, hs⟩ := h
  obtain ⟨p1, p2, p3, ⟨p4, p5, p6⟩ | ⟨g, off, cur, p4, p5, p6, p7⟩⟩ := hp
  · have hn : n = 0 := by omega
    subst hn
    exact .inl ⟨p4, rfl, p5, List.eq_nil_of_length_eq_zero (by simpa using p1), hdrop⟩
  · exact .inr ⟨g, off, cur, p4, p5, p6, h1, h2, h3, h4, _, ⟨a, _, hd, rfl, ho, c, d, hd', rfl, p7, hr⟩, hs⟩

/-- One element's cell. -/
theorem St.slo_cell (h : St w0 (slo E sz ao n cap xs * R) w) (hn : 0 < n * sz) :
    ∃ g off, ao = some ⟨g, off, none⟩ ∧ ∀ j, j < n * sz → w.cell? ⟨g, off + j, none⟩ = xs[j]? := by
  rcases h.slo_open with ⟨_, rfl, _⟩ | ⟨g, off, cur, e, _, hc, hS⟩
  · simp at hn
  · exact ⟨g, off, e, fun j hj => by rw [hS.cell]; exact hc j hj⟩

/-- One element's cell, beside another block. -/
theorem St.slo_cell' {b : Nat} {o : Obj} (h : St w0 (slo E sz ao n cap xs * (SP.blk b o * R)) w) (hn : 0 < n * sz) :
    ∃ g off, ao = some ⟨g, off, none⟩ ∧ (∀ j, j < n * sz → w.cell? ⟨g, off + j, none⟩ = xs[j]?) ∧ g ≠ b := by
  rcases h.slo_open with ⟨_, rfl, _⟩ | ⟨g, off, cur, e, _, hc, hS⟩
  · simp at hn
  · exact ⟨g, off, e, fun j hj => by rw [hS.cell]; exact hc j hj, hS.ne⟩

theorem slo_mk {g off : Nat} {cur : Array Value} (hl : xs.length = n * sz) (h1 : n ≤ cap) (h2 : cap ≤ maxLen) (h3 : off + cap * sz ≤ cur.size) (h4 : ∀ j, j < n * sz → cur[off + j]? = xs[j]?) :
    ∀ h, SP.blk g (.cells cur E (0, 0)) h → slo E sz (some ⟨g, off, none⟩) n cap xs h :=
  fun _ hb => ⟨hl, h1, h2, .inr ⟨g, off, cur, rfl, h3, h4, hb⟩⟩

/-- Where 'x[k:]' begins. -/
def cutAt (ao : Option Addr) (cap k sz : Nat) : Option Addr := if cap = k then ao else ao.map (·.add (k * sz))

/-- 'x[k:]'. -/
theorem St.slo_cut (h : St w0 (slo E sz ao n cap xs * R) w) {k : Nat} (hk : k ≤ n) : St w0 (slo E sz (cutAt ao cap k sz) (n - k) (cap - k) (xs.drop (k * sz)) * R) w := by
  have hl := h.slo_len
  rcases h.slo_open with ⟨rfl, rfl, rfl, rfl, hS⟩ | ⟨g, off, cur, rfl, hb, hc, hS⟩
  · obtain rfl : k = 0 := by omega
    simp only [cutAt]
    simpa [slo_nil, SP.one_mul] using hS
  · refine hS.mono ?_
    have e1 : (n - k) * sz = n * sz - k * sz := Nat.sub_mul ..
    have e2 : (cap - k) * sz = cap * sz - k * sz := Nat.sub_mul ..
    have e3 : k * sz ≤ n * sz := Nat.mul_le_mul_right _ hk
    have e4 : n * sz ≤ cap * sz := Nat.mul_le_mul_right _ hl.2.1
    by_cases hck : cap = k
    · have : cutAt (some ⟨g, off, none⟩) cap k sz = some ⟨g, off, none⟩ := by simp [cutAt, hck]
      rw [this]
      refine slo_mk ?_ (by omega) (by omega) (by omega) ?_
      · rw [List.length_drop, hl.1]; omega
      · intro j hj
        have : n = k := by omega
        subst this
        simp at hj
    · have : cutAt (some ⟨g, off, none⟩) cap k sz = some ⟨g, off + k * sz, none⟩ := by
        simp only [cutAt, hck, if_false, Option.map_some, Addr.add]
        split
        · rename_i e; simp [e]
        · rfl
      rw [this]
      refine slo_mk ?_ (by omega) (by omega) (by omega) ?_
      · rw [List.length_drop, hl.1]; omega
      · intro j hj
        rw [List.getElem?_drop, Nat.add_assoc]
        exact hc _ (by omega)

theorem add_none (g off j : Nat) : (⟨g, off, none⟩ : Addr).add j = ⟨g, off + j, none⟩ := by
  unfold Addr.add
  split
  · rename_i e; subst e; rfl
  · rfl

theorem St.setCells {b : Nat} {E : TypeId} {fz : Nat × Nat} : ∀ (vs : List Value) (o : Nat) (c : Array Value) (w : World), St w0 (SP.blk b (.cells c E fz) * R) w → o + vs.length ≤ c.size →
    ∃ c', c'.size = c.size ∧ (∀ j, j < o → c'[j]? = c[j]?) ∧ (∀ j, j < vs.length → c'[o + j]? = vs[j]?) ∧ St w0 (SP.blk b (.cells c' E fz) * R) (w.setCells b o vs)
  | [], o, c, w, h, _ => ⟨c, rfl, fun _ _ => rfl, fun j hj => by simp at hj, h⟩
  | v :: r, o, c, w, h, hl => by
    simp only [List.length_cons] at hl
    obtain ⟨c', k1, k2, k3, k4⟩ := St.setCells (b := b) (fz := fz) r (o + 1) (c.setIfInBounds o v) (w.setCell ⟨b, o, none⟩ v) (h.setCell v) (by simp; omega)
    refine ⟨c', by simpa using k1, ?_, ?_, k4⟩
    · intro j hj
      rw [k2 j (by omega), Array.getElem?_setIfInBounds_ne (by omega)]
    · intro j hj
      match j, hj with
      | 0, _ =>
        rw [k2 (o + 0) (by omega)]
        have : o < c.size := by omega
        simp [this]
      | j + 1, hj =>
        have := k3 j (by simpa using hj)
        rw [show o + (j + 1) = o + 1 + j by omega, this]
        simp

/-- append onto an owned slice: some value that owns the longer list, in some world. -/
theorem run_append_slo {P : Program} (h : St w0 (slo E sz ao n cap xs * R) w) (t ty : TypeId) (i : TypeInfo) (z : Value) (bytes : Nat)
    (ht : P.underlying t = some (.slice E)) (hi : P.info? E = some i) (hz : i.zero = some z) (hsize : i.size = sz) (hby : i.bytes = bytes) (hzs : z.cells.size = sz) (hsz : 0 < sz)
    (a : Addr) (m c : Nat) (news : List Value) (hl : news.length = m * sz) (hnews : ∀ j u, news[j]? = some u → w.cell? (a.add j) = some u) (h1 : ∀ u ∈ news, u.oneCell' = true)
    (hbytes : (n + m) * bytes ≤ 140737488355328) (hmax : n + m ≤ maxLen) :
    ∃ ao' cap' w', (Builtin.append_ #[t, t] ty #[.slice ao n cap, .slice (some a) m c]).run P w = .ok (.slice ao' (n + m) cap') w' ∧
      St w0 (slo E sz ao' (n + m) cap' (xs ++ news) * R) w' := by
  subst hsize
  subst hby
  have hsmall : n + m ≤ 9223372036854775807 := by simp only [maxLen] at hmax; omega
  have hl0 := h.slo_len
  have hlen : (xs ++ news).length = (n + m) * i.size := by rw [List.length_append, hl0.1, hl, Nat.add_mul]
  have grown : ∀ (old : Nat), old < n + m → St w0 (slo E i.size (some ⟨w.heap.size, 0, none⟩) (n + m) (grownCap w (n + m) old E) (xs ++ news) * R)
      (w.drew.alloc (.cells (xs.toArray ++ news.toArray ++ Builtin.zeroCells z.cells (grownCap w (n + m) old E - (n + m))) E)) := by
    intro old ho
    have hge := grownCap_ge w (n + m) old E
    have hcm : grownCap w (n + m) old E ≤ maxLen := grownCap_le_maxLen w (n + m) old E hmax
    have hS : St w0 (SP.blk w.heap.size (.cells (xs.toArray ++ news.toArray ++ Builtin.zeroCells z.cells (grownCap w (n + m) old E - (n + m))) E (0, 0)) * R)
      (w.drew.alloc (.cells (xs.toArray ++ news.toArray ++ Builtin.zeroCells z.cells (grownCap w (n + m) old E - (n + m))) E)) := h.drop.drew.alloc _
    refine hS.mono (slo_mk hlen hge hcm ?_ ?_)
    · simp only [Array.size_append, List.size_toArray, size_zeroCells, hzs, hl0.1, hl, ← Nat.add_mul, Nat.zero_add]
      apply Nat.le_of_eq
      congr 1
      omega
    · intro j hj
      rw [← hlen] at hj
      rw [Nat.zero_add, Array.getElem?_append_left (by simpa using hj)]
      simp
  rcases h.slo_open with ⟨rfl, rfl, rfl, rfl, hS⟩ | ⟨g, off, cur, rfl, hcs, hc, hS⟩
  · by_cases hm : m = 0
    · subst hm
      have hn : news = [] := List.eq_nil_of_length_eq_zero (by simpa using hl)
      subst hn
      refine ⟨none, 0, w, ?_, ?_⟩
      · simp [Builtin.append_, run_underlying ht, sizeOf, typeInfo, hi, Builtin.lenOf, Builtin.firstCells, loadCells, loadCellsFrom]
      · simpa [slo_nil, SP.one_mul] using hS
    · have hr := run_append_nil (P := P) w t ty E i z ht hi hz a m c news hl hnews (by omega) (by omega) (by have hb := hbytes; simp only [Nat.zero_add] at hb; omega)
      have hgr := grown 0 (by omega)
      simp only [Nat.zero_add, List.nil_append, Array.empty_append] at hgr ⊢
      exact ⟨_, _, _, hr, hgr⟩
  · by_cases hroom : n + m ≤ cap
    · have hfit : (n + m) * i.size ≤ cap * i.size := Nat.mul_le_mul_right _ hroom
      rw [Nat.add_mul] at hfit
      have hr := run_append_room_cells (P := P) w t ty E i ht hi g off n cap a m c news hl hnews h1 hroom
        (fun j hj => by rw [hS.cell, Array.getElem?_eq_getElem (by omega)]; rfl) (fun j hj => hS.free _)
      obtain ⟨c', k1, k2, k3, k4⟩ := St.setCells (b := g) (fz := (0, 0)) news (off + n * i.size) cur w hS (by omega)
      refine ⟨_, _, _, hr, k4.mono (slo_mk hlen hroom hl0.2.2 (by omega) ?_)⟩
      intro j hj
      rw [Nat.add_mul] at hj
      by_cases hjn : j < n * i.size
      · rw [k2 _ (by omega), hc j hjn, List.getElem?_append_left (by omega)]
      · rw [List.getElem?_append_right (by omega), hl0.1, ← k3 (j - n * i.size) (by omega)]
        congr 1
        omega
    · have holds : ∀ j u, xs[j]? = some u → w.cell? ((⟨g, off, none⟩ : Addr).add j) = some u := by
        intro j u hu
        have hj : j < n * i.size := by rw [← hl0.1]; exact (List.getElem?_eq_some_iff.1 hu).1
        rw [add_none, hS.cell, hc j hj, hu]
      have hr := run_append_grow (P := P) w t ty E i z ht hi hz ⟨g, off, none⟩ n cap xs hl0.1 holds a m c news hl hnews (by omega) (by omega) (growslice_fits (by omega) hbytes)
      exact ⟨_, _, _, hr, grown cap (by omega)⟩

/-- The law for the walk. -/
theorem wpList_append_slo {P : Program} {ops : Array Oper} {rest : List Oper} {o : Oper} {act : Act} {Q : Exit → Act → World → Prop}
    (hg : o.guard = none) (s x : Operand) (t : TypeId) (hop : o.op = Op.call { callee := Callee.builtin Builtin.append, args := #[s, x], argTypes := #[t, t] })
    (i : TypeInfo) (z : Value) (bytes : Nat)
    (ht : P.underlying t = some (.slice E)) (hi : P.info? E = some i) (hz : i.zero = some z) (hsize : i.size = sz) (hby : i.bytes = bytes) (hzs : z.cells.size = sz) (hsz : 0 < sz)
    (h : St w0 (slo E sz ao n cap xs * R) w) (hs : act.eval s = .slice ao n cap)
    (a : Addr) (m c : Nat) (news : List Value) (hx : act.eval x = .slice (some a) m c) (hl : news.length = m * sz) (hnews : ∀ j u, news[j]? = some u → w.cell? (a.add j) = some u) (h1 : ∀ u ∈ news, u.oneCell' = true)
    (hbytes : (n + m) * bytes ≤ 140737488355328) (hmax : n + m ≤ maxLen)
    (hK : ∀ ao' cap' w', St w0 (slo E sz ao' (n + m) cap' (xs ++ news) * R) w' → wpList P ops Q rest (act.put o.dst (.slice ao' (n + m) cap')) w') :
    wpList P ops Q (o :: rest) act w := by
  refine wpList_plain hg fun K hK' => ?_
  obtain ⟨ao', cap', w', hrun, r1⟩ := run_append_slo (P := P) h t o.type i z bytes ht hi hz hsize hby hzs hsz a m c news hl hnews h1 hbytes hmax
  unfold Oper.wp
  simp [execOp, hop, resolve, invoke, builtin, hs, hx, hrun, Result.andThen]
  exact hK' _ _ (hK ao' cap' w' r1)

/-- The same, as one step of a region that draws its order. -/
theorem step_append_slo {P : Program} {ops : Array Oper} {o : Oper} {act : Act} {K : Act → World → Prop} {Q : Exit → Act → World → Prop} {el : Prop}
    (hg : o.guard = none) (s x : Operand) (t : TypeId) (hop : o.op = Op.call { callee := Callee.builtin Builtin.append, args := #[s, x], argTypes := #[t, t] })
    (i : TypeInfo) (z : Value) (bytes : Nat)
    (ht : P.underlying t = some (.slice E)) (hi : P.info? E = some i) (hz : i.zero = some z) (hsize : i.size = sz) (hby : i.bytes = bytes) (hzs : z.cells.size = sz) (hsz : 0 < sz)
    (h : St w0 (slo E sz ao n cap xs * R) w) (hs : act.eval s = .slice ao n cap)
    (a : Addr) (m c : Nat) (news : List Value) (hx : act.eval x = .slice (some a) m c) (hl : news.length = m * sz) (hnews : ∀ j u, news[j]? = some u → w.cell? (a.add j) = some u) (h1 : ∀ u ∈ news, u.oneCell' = true)
    (hbytes : (n + m) * bytes ≤ 140737488355328) (hmax : n + m ≤ maxLen)
    (hK : ∀ ao' cap' w', St w0 (slo E sz ao' (n + m) cap' (xs ++ news) * R) w' → K (act.put o.dst (.slice ao' (n + m) cap')) w') :
    if Region.wanted o (yielded ops act.tmps) = true then Oper.wp P o act w K Q else el := by
  have hw : Region.wanted o (yielded ops act.tmps) = true := by simp [Region.wanted, hg]
  rw [if_pos hw]
  obtain ⟨ao', cap', w', hrun, r1⟩ := run_append_slo (P := P) h t o.type i z bytes ht hi hz hsize hby hzs hsz a m c news hl hnews h1 hbytes hmax
  unfold Oper.wp
  simp [execOp, hop, resolve, invoke, builtin, hs, hx, hrun, Result.andThen]
  exact hK ao' cap' w' r1

/-- Behind a new block. -/
theorem St.alloc1 {A : SP} (h : St w0 (A * R) w) (o : Obj) : St w0 (A * (SP.blk w.heap.size o * R)) (w.alloc o) := (h.alloc o).eq (SP.mul_left_comm _ _ _)

end

/-- Assertions of all that is in a list. -/
def SP.all {α : Type} (f : α → SP) : List α → SP
  | [] => 1
  | x :: r => f x * SP.all f r

theorem SP.all_append {α : Type} (f : α → SP) : ∀ a b : List α, SP.all f (a ++ b) = SP.all f a * SP.all f b
  | [], b => by simp [SP.all, SP.one_mul]
  | x :: r, b => by simp [SP.all, SP.all_append f r b, SP.mul_assoc]

theorem SP.all_set {α : Type} (f : α → SP) : ∀ (l : List α) (i : Nat) (x : α), i < l.length → SP.all f (l.set i x) = f x * SP.all f (l.eraseIdx i)
  | [], _, _, h => by simp at h
  | y :: r, 0, x, _ => rfl
  | y :: r, i + 1, x, h => by
    simp only [List.set_cons_succ, List.eraseIdx_cons_succ, SP.all]
    rw [SP.all_set f r i x (by simpa using h), SP.mul_left_comm]

theorem SP.all_get {α : Type} (f : α → SP) (l : List α) (i : Nat) (h : i < l.length) : SP.all f l = f l[i] * SP.all f (l.eraseIdx i) := by
  rw [← SP.all_set f l i l[i] h, List.set_getElem_self]

#print axioms wpList_append_slo
end Go.Proofs.YtlmoifeinglaeaaDoor
