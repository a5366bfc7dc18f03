/- The network (layer 16) in memory, and its inner function 'at'. -/
import Derived.Test.YtdgohegjpehofaaSlo
import Derived.Test.YtdgohegjpehofaaRows
import Derived.WalkSpells
import Derived.WalkLawsBesides
import Derived.Lib.Hide
namespace Go.Proofs.Ytdgohegjpehofaa
open Go.RowKit

/-- A connection: where it lies, and what it is. -/
structure Cn where
  blk : Nat
  ao : Option Addr
  cap : Nat
  inq : List ByteArray
  came : Nat
  shut : Bool
  reset : Bool
  taken : Bool
  closed : Bool
  out : ByteArray

def Cn.cells (c : Cn) : Array Value := #[.slice c.ao c.inq.length c.cap, .int .i64 c.came, .bool c.shut, .bool c.reset, .bool c.taken, .bool c.closed, .string c.out]
def conn (c : Cn) : SP := SP.blk c.blk (.cells c.cells 50 (0, 0)) * slo 9 1 c.ao c.inq.length c.cap (c.inq.map .string)

structure Ns where
  ao : Option Addr
  cap : Nat
  conns : List Cn
  dao : Option Addr
  dcap : Nat
  dials : List Nat

def ptr (b : Nat) : Value := .pointer (some ⟨b, 0, none⟩)
def Ns.head (s : Ns) : Array Value := #[.slice s.ao s.conns.length s.cap, .slice s.dao s.dials.length s.dcap]
def net (a : Nat) (s : Ns) : SP :=
  SP.blk a (.cells s.head 27 (0, 0)) * (slo 48 1 s.ao s.conns.length s.cap (s.conns.map fun c => ptr c.blk) *
    (slo 3 1 s.dao s.dials.length s.dcap (s.dials.map fun d => .int .i64 (d : Nat)) * SP.all conn s.conns))

section
variable {w0 w : World} {R : SP} {a : Nat} {s : Ns}

theorem St.net_head (h : St w0 (net a s * R) w) :
    w.cell? ⟨a, 0, none⟩ = some (.slice s.ao s.conns.length s.cap) ∧ w.cell? ⟨a, 1, none⟩ = some (.slice s.dao s.dials.length s.dcap) := by
  unfold net at h
  rw [SP.mul_assoc] at h
  exact ⟨by rw [h.cell]; rfl, by rw [h.cell]; rfl⟩

theorem St.net_len (h : St w0 (net a s * R) w) : s.conns.length ≤ maxLen := by
  unfold net at h
  have h' : St w0 (slo 48 1 s.ao s.conns.length s.cap (s.conns.map fun c => ptr c.blk) * (SP.blk a (.cells s.head 27 (0, 0)) * (slo 3 1 s.dao s.dials.length s.dcap (s.dials.map fun d => .int .i64 (d : Nat)) * SP.all conn s.conns) * R)) w := h.eq (by ac_rfl)
  have := h'.slo_len
  omega

theorem SP.three (A B C R : SP) : A * (B * C) * R = B * (A * (C * R)) := by ac_rfl

theorem St.net_ptr (h : St w0 (net a s * R) w) {k : Nat} (hk : k < s.conns.length) :
    ∃ g off, s.ao = some ⟨g, off, none⟩ ∧ w.cell? ⟨g, off + k, none⟩ = some (ptr s.conns[k].blk) ∧ g ≠ a := by
  unfold net at h
  obtain ⟨g, off, e, hc, hne⟩ := (h.eq (SP.three _ _ _ _)).slo_cell' (by omega)
  exact ⟨g, off, e, by rw [hc k (by omega)]; simp [hk], hne⟩

set_option maxHeartbeats 400000 in
theorem at_some (h : St w0 (net a s * R) w) (k : Nat) (hk : k < s.conns.length) :
    Calls Try.prog 20 #[.pointer (some ⟨a, 0, none⟩), .int .i64 k] w fun e w' => e = .returned (ptr s.conns[k].blk) ∧ w = w' := by
  have hlen := h.net_len
  unfold maxLen at hlen
  obtain ⟨g, off, e, hc, -⟩ := h.net_ptr hk
  have h0 := h.net_head.1
  rw [e] at h0
  have Hc := Lib.hid hc
  generalize hv : ptr s.conns[k].blk = v at *
  clear Hc e h
  go_enter Try.func20, Try.ntmps20
  go_wp2
  go_ret
  exact ⟨rfl, rfl⟩

set_option maxHeartbeats 400000 in
theorem at_none (h : St w0 (net a s * R) w) (i : Int) (hi : i < 0 ∨ (s.conns.length : Int) ≤ i) :
    Calls Try.prog 20 #[.pointer (some ⟨a, 0, none⟩), .int .i64 i] w fun e w' => e = .returned (.pointer none) ∧ w = w' := by
  have hlen := h.net_len
  unfold maxLen at hlen
  have h0 := h.net_head.1
  clear h
  by_cases hn : i < 0
  · clear hi
    go_enter Try.func20, Try.ntmps20
    go_wp2
    go_ret
    exact ⟨rfl, rfl⟩
  · have hge : (s.conns.length : Int) ≤ i := by omega
    clear hi
    go_enter Try.func20, Try.ntmps20
    go_wp2
    go_ret
    exact ⟨rfl, rfl⟩

/-- All but one connection. -/
def netBut (a : Nat) (s : Ns) (k : Nat) : SP :=
  SP.blk a (.cells s.head 27 (0, 0)) * (slo 48 1 s.ao s.conns.length s.cap (s.conns.map fun c => ptr c.blk) *
    (slo 3 1 s.dao s.dials.length s.dcap (s.dials.map fun d => .int .i64 (d : Nat)) * SP.all conn (s.conns.eraseIdx k)))

def Ns.put (s : Ns) (k : Nat) (c : Cn) : Ns := { s with conns := s.conns.set k c }

theorem net_put {k : Nat} (hk : k < s.conns.length) {c : Cn} (hb : c.blk = s.conns[k].blk) : net a (s.put k c) = conn c * netBut a s k := by
  have e1 : (s.conns.set k c).map (fun c => ptr c.blk) = s.conns.map (fun c => ptr c.blk) := by
    rw [List.map_set, hb]
    apply List.ext_getElem (by simp)
    intro i h1 h2
    by_cases e : k = i
    · subst e; simp
    · simp [e]
  unfold net netBut Ns.put Ns.head
  simp only [List.length_set, e1]
  rw [SP.all_set conn s.conns k c hk]
  ac_rfl

theorem net_get {k : Nat} (hk : k < s.conns.length) : net a s = conn s.conns[k] * netBut a s k := by
  have := net_put (a := a) (s := s) hk (c := s.conns[k]) rfl
  rw [← this, Ns.put, List.set_getElem_self]

/-- What a connection's cells hold. -/
theorem St.conn_cells {c : Cn} (h : St w0 (conn c * R) w) :
    w.cell? ⟨c.blk, 0, none⟩ = some (.slice c.ao c.inq.length c.cap) ∧ w.cell? ⟨c.blk, 1, none⟩ = some (.int .i64 c.came) ∧ w.cell? ⟨c.blk, 2, none⟩ = some (.bool c.shut) ∧
    w.cell? ⟨c.blk, 3, none⟩ = some (.bool c.reset) ∧ w.cell? ⟨c.blk, 4, none⟩ = some (.bool c.taken) ∧ w.cell? ⟨c.blk, 5, none⟩ = some (.bool c.closed) ∧ w.cell? ⟨c.blk, 6, none⟩ = some (.string c.out) ∧
    (∀ i, w.frozen? ⟨c.blk, i, none⟩ = false) := by
  unfold conn at h
  rw [SP.mul_assoc] at h
  refine ⟨?_, ?_, ?_, ?_, ?_, ?_, ?_, fun i => h.free i⟩ <;> rw [h.cell] <;> rfl

theorem St.conn_len {c : Cn} (h : St w0 (conn c * R) w) : c.inq.length ≤ maxLen := by
  unfold conn at h
  have h' : St w0 (slo 9 1 c.ao c.inq.length c.cap (c.inq.map .string) * (SP.blk c.blk (.cells c.cells 50 (0, 0)) * R)) w := h.eq (by ac_rfl)
  have := h'.slo_len
  omega

/-- The connection of a number. -/
def Ns.at? (s : Ns) (i : Int) : Option Cn := if 0 ≤ i then s.conns[i.toNat]? else none

theorem at?_none {i : Int} (h : s.at? i = none) : i < 0 ∨ (s.conns.length : Int) ≤ i := by
  unfold Ns.at? at h
  split at h
  · rw [List.getElem?_eq_none_iff] at h; omega
  · omega

theorem at?_some {i : Int} {c : Cn} (h : s.at? i = some c) : ∃ k : Nat, i = k ∧ ∃ hk : k < s.conns.length, s.conns[k] = c := by
  unfold Ns.at? at h
  split at h
  · obtain ⟨hk, e⟩ := List.getElem?_eq_some_iff.1 h
    exact ⟨i.toNat, by omega, hk, e⟩
  · cases h

end
end Go.Proofs.Ytdgohegjpehofaa
