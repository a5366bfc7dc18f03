/- NetRuns: what the law itself keeps: connections as they should be, and who dialled; how that stands to the network. -/
import Derived.Test.YtdgohegjpehofaaNetFit
namespace Go.Proofs.Ytdgohegjpehofaa
open Go.RowKit

/-- What a connection is, wherever it lies. -/
structure Ab where
  inq : List ByteArray
  came : Nat
  shut : Bool
  reset : Bool
  closed : Bool
  out : ByteArray

def Cn.ab (c : Cn) : Ab := ⟨c.inq, c.came, c.shut, c.reset, c.closed, c.out⟩

/-- The law's own connection. -/
structure Mn where
  blk : Nat
  ao : Option Addr
  cap : Nat
  ab : Ab

def Mn.cells (c : Mn) : Array Value := #[.slice c.ao c.ab.inq.length c.cap, .int .i64 c.ab.came, .bool c.ab.shut, .bool c.ab.reset, .bool c.ab.closed, .string c.ab.out]
def mcn (c : Mn) : SP := SP.blk c.blk (.cells c.cells 35 (0, 0)) * slo 9 1 c.ao c.ab.inq.length c.cap (c.ab.inq.map .string)

structure Lw where
  ao : Option Addr
  cap : Nat
  ms : List Mn
  dao : Option Addr
  dcap : Nat
  dials : List Nat

def law (l : Lw) : SP :=
  slo 31 1 l.ao l.ms.length l.cap (l.ms.map fun c => ptr c.blk) * (slo 3 1 l.dao l.dials.length l.dcap (l.dials.map fun d => .int .i64 (d : Nat)) * SP.all mcn l.ms)

/-- The two say the same; what is held is no more than so many calls can bring. -/
structure Syn (k : Nat) (s : Ns) (l : Lw) : Prop where
  ab : s.conns.map Cn.ab = l.ms.map Mn.ab
  dials : s.dials = l.dials
  known : ∀ d ∈ s.dials, d < s.conns.length
  conns : s.conns.length ≤ k
  few : s.dials.length ≤ k
  light : ∀ c ∈ s.conns, c.inq.length ≤ k ∧ c.came ≤ 200 * k ∧ c.out.size ≤ 200 * k

theorem Syn.len {k : Nat} {s : Ns} {l : Lw} (h : Syn k s l) : s.conns.length = l.ms.length := by
  have := congrArg List.length h.ab
  simpa using this

theorem Syn.at {k : Nat} {s : Ns} {l : Lw} (h : Syn k s l) {i : Nat} (h1 : i < s.conns.length) (h2 : i < l.ms.length) : s.conns[i].ab = l.ms[i].ab := by
  have := congrArg (fun x => x[i]?) h.ab
  simpa [h1, h2] using this

theorem Syn.more {k : Nat} {s : Ns} {l : Lw} (h : Syn k s l) : Syn (k + 1) s l :=
  ⟨h.ab, h.dials, h.known, Nat.le_succ_of_le h.conns, Nat.le_succ_of_le h.few, fun c hc => by have := h.light c hc; omega⟩

def Lw.put (l : Lw) (i : Nat) (c : Mn) : Lw := { l with ms := l.ms.set i c }

theorem Syn.put {k : Nat} {s : Ns} {l : Lw} (h : Syn k s l) {i : Nat} {c : Cn} {m : Mn} (he : c.ab = m.ab)
    (hl : c.inq.length ≤ k + 1 ∧ c.came ≤ 200 * (k + 1) ∧ c.out.size ≤ 200 * (k + 1)) : Syn (k + 1) (s.put i c) (l.put i m) := by
  have h' := h.more
  refine ⟨?_, h.dials, ?_, ?_, h'.few, ?_⟩
  · show (s.conns.set i c).map Cn.ab = (l.ms.set i m).map Mn.ab
    rw [List.map_set, List.map_set, h.ab, he]
  · intro d hd; show d < (s.conns.set i c).length; rw [List.length_set]; exact h.known d hd
  · show (s.conns.set i c).length ≤ _; rw [List.length_set]; exact h'.conns
  · intro x hx
    rcases List.mem_or_eq_of_mem_set hx with hx | rfl
    · exact h'.light x hx
    · exact hl

section
variable {w0 w : World} {R : SP} {l : Lw}

theorem St.law_len (h : St w0 (law l * R) w) : l.ms.length ≤ maxLen ∧ l.dials.length ≤ maxLen := by
  unfold law at h
  have h1 := (h.eq (SP.mul_assoc _ _ _)).slo_len
  have h2 := (h.eq (show _ = slo 3 1 l.dao l.dials.length l.dcap (l.dials.map fun d => .int .i64 (d : Nat)) * (slo 31 1 l.ao l.ms.length l.cap (l.ms.map fun c => ptr c.blk) * (SP.all mcn l.ms * R)) by ac_rfl)).slo_len
  omega

theorem St.law_ptr (h : St w0 (law l * R) w) {k : Nat} (hk : k < l.ms.length) :
    ∃ g off, l.ao = some ⟨g, off, none⟩ ∧ w.cell? ⟨g, off + k, none⟩ = some (ptr l.ms[k].blk) := by
  unfold law at h
  obtain ⟨g, off, e, hc⟩ := (h.eq (SP.mul_assoc _ _ _)).slo_cell (by omega)
  exact ⟨g, off, e, by rw [hc k (by omega)]; simp [hk]⟩

/-- All but one of the law's connections. -/
def lawBut (l : Lw) (i : Nat) : SP :=
  slo 31 1 l.ao l.ms.length l.cap (l.ms.map fun c => ptr c.blk) * (slo 3 1 l.dao l.dials.length l.dcap (l.dials.map fun d => .int .i64 (d : Nat)) * SP.all mcn (l.ms.eraseIdx i))

theorem law_put {i : Nat} (hk : i < l.ms.length) {c : Mn} (hb : c.blk = l.ms[i].blk) : law (l.put i c) = mcn c * lawBut l i := by
  have e1 : (l.ms.set i c).map (fun c => ptr c.blk) = l.ms.map (fun c => ptr c.blk) := by
    rw [List.map_set, hb]
    apply List.ext_getElem (by simp)
    intro j h1 h2
    by_cases e : i = j
    · subst e; simp
    · simp [e]
  unfold law lawBut Lw.put
  simp only [List.length_set, e1]
  rw [SP.all_set mcn l.ms i c hk]
  ac_rfl

theorem law_get {i : Nat} (hk : i < l.ms.length) : law l = mcn l.ms[i] * lawBut l i := by
  have := law_put (l := l) hk (c := l.ms[i]) rfl
  rw [← this, Lw.put, List.set_getElem_self]

theorem St.law_mcn (h : St w0 (law l * R) w) {i : Nat} (hk : i < l.ms.length) : St w0 (mcn l.ms[i] * (lawBut l i * R)) w := h.eq (by rw [law_get hk, SP.mul_assoc])
theorem St.law_back {i : Nat} (hk : i < l.ms.length) {c : Mn} (hb : c.blk = l.ms[i].blk) (h : St w0 (mcn c * (lawBut l i * R)) w) : St w0 (law (l.put i c) * R) w := h.eq (by rw [law_put hk hb, SP.mul_assoc])

theorem St.mcn_cells {c : Mn} (h : St w0 (mcn c * R) w) :
    w.cell? ⟨c.blk, 0, none⟩ = some (.slice c.ao c.ab.inq.length c.cap) ∧ w.cell? ⟨c.blk, 1, none⟩ = some (.int .i64 c.ab.came) ∧ w.cell? ⟨c.blk, 2, none⟩ = some (.bool c.ab.shut) ∧
    w.cell? ⟨c.blk, 3, none⟩ = some (.bool c.ab.reset) ∧ w.cell? ⟨c.blk, 4, none⟩ = some (.bool c.ab.closed) ∧ w.cell? ⟨c.blk, 5, none⟩ = some (.string c.ab.out) ∧
    (∀ i, w.frozen? ⟨c.blk, i, none⟩ = false) := by
  unfold mcn at h
  rw [SP.mul_assoc] at h
  refine ⟨?_, ?_, ?_, ?_, ?_, ?_, fun i => h.free i⟩ <;> rw [h.cell] <;> rfl

theorem St.mcn_lt {c : Mn} (h : St w0 (mcn c * R) w) : c.blk < w.heap.size := by
  unfold mcn at h
  rw [SP.mul_assoc] at h
  exact h.lt

theorem St.mcn_split {c : Mn} (h : St w0 (mcn c * R) w) : St w0 (slo 9 1 c.ao c.ab.inq.length c.cap (c.ab.inq.map .string) * (SP.blk c.blk (.cells c.cells 35 (0, 0)) * R)) w := by
  unfold mcn at h
  exact h.eq (by ac_rfl)

theorem St.mcn_shut {c : Mn} (h : St w0 (mcn c * R) w) (b : Bool) : St w0 (mcn { c with ab := { c.ab with shut := b } } * R) (w.setCell ⟨c.blk, 2, none⟩ (.bool b)) := by
  unfold mcn at h ⊢
  rw [SP.mul_assoc] at h ⊢
  exact h.setCell (i := 2) (.bool b)
theorem St.mcn_reset {c : Mn} (h : St w0 (mcn c * R) w) (b : Bool) : St w0 (mcn { c with ab := { c.ab with reset := b } } * R) (w.setCell ⟨c.blk, 3, none⟩ (.bool b)) := by
  unfold mcn at h ⊢
  rw [SP.mul_assoc] at h ⊢
  exact h.setCell (i := 3) (.bool b)
theorem St.mcn_closed {c : Mn} (h : St w0 (mcn c * R) w) (b : Bool) : St w0 (mcn { c with ab := { c.ab with closed := b } } * R) (w.setCell ⟨c.blk, 4, none⟩ (.bool b)) := by
  unfold mcn at h ⊢
  rw [SP.mul_assoc] at h ⊢
  exact h.setCell (i := 4) (.bool b)
theorem St.mcn_out {c : Mn} (h : St w0 (mcn c * R) w) (b : ByteArray) : St w0 (mcn { c with ab := { c.ab with out := b } } * R) (w.setCell ⟨c.blk, 5, none⟩ (.string b)) := by
  unfold mcn at h ⊢
  rw [SP.mul_assoc] at h ⊢
  exact h.setCell (i := 5) (.string b)
theorem St.mcn_came {c : Mn} (h : St w0 (mcn c * R) w) (n : Nat) {v : Int} (hv : v = n) : St w0 (mcn { c with ab := { c.ab with came := n } } * R) (w.setCell ⟨c.blk, 1, none⟩ (.int .i64 v)) := by
  subst hv
  unfold mcn at h ⊢
  rw [SP.mul_assoc] at h ⊢
  exact h.setCell (i := 1) (.int .i64 n)
theorem St.mcn_inq {c : Mn} {ao : Option Addr} {n cap : Nat} {q : List ByteArray} (hn : n = q.length)
    (h : St w0 (slo 9 1 ao n cap (q.map .string) * (SP.blk c.blk (.cells c.cells 35 (0, 0)) * R)) w) :
    St w0 (mcn { c with ao := ao, cap := cap, ab := { c.ab with inq := q } } * R) (w.setCell ⟨c.blk, 0, none⟩ (.slice ao n cap)) := by
  subst hn
  have h' := (h.eq (SP.mul_left_comm _ _ _)).setCell (i := 0) (.slice ao q.length cap)
  unfold mcn
  rw [SP.mul_assoc]
  exact h'

theorem St.mcn_clear {c : Mn} (h : St w0 (mcn c * R) w) : St w0 (mcn { c with ao := none, cap := 0, ab := { c.ab with inq := [] } } * R) (w.setCell ⟨c.blk, 0, none⟩ (.slice none 0 0)) :=
  St.mcn_inq (q := []) rfl (h.mcn_split.drop.eq (by rw [List.map_nil, slo_nil, SP.one_mul]))

def Mn.fresh (b : Nat) : Mn := ⟨b, none, 0, ⟨[], 0, false, false, false, ByteArray.empty⟩⟩
theorem fresh_mcn (b : Nat) : mcn (Mn.fresh b) = SP.blk b (.cells #[.slice none 0 0, .int .i64 0, .bool false, .bool false, .bool false, .string ByteArray.empty] 35) := by
  unfold mcn Mn.fresh Mn.cells
  simp only [List.map_nil, List.length_nil, slo_nil, SP.mul_one]
  rfl
end
end Go.Proofs.Ytdgohegjpehofaa
