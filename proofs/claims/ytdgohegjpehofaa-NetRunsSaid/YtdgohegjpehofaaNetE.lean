/- The network's Dial. -/
import Derived.Test.YtdgohegjpehofaaNetD
import Derived.Deep.RegionLaw
import Derived.BigRegion
namespace Go.Proofs.Ytdgohegjpehofaa
open Go.RowKit

section
variable {w0 w : World} {R : SP} {a : Nat} {s : Ns}

def Cn.fresh (b : Nat) : Cn := ⟨b, none, 0, [], 0, false, false, false, false, ByteArray.empty⟩

theorem info_int : (Try.prog.info? 3).map (fun i => (i.zero, i.size, i.bytes)) = some (some (.int .i64 0), 1, 8) := by kernel_rfl
theorem info_conn : (Try.prog.info? 48).map (fun i => (i.zero, i.size, i.bytes)) = some (some (.pointer none), 1, 8) := by kernel_rfl

/-- The list of connections, beside all else. -/
theorem St.net_list (h : St w0 (net a s * R) w) :
    St w0 (slo 48 1 s.ao s.conns.length s.cap (s.conns.map fun c => ptr c.blk) * (SP.blk a (.cells s.head 27 (0, 0)) *
      (slo 3 1 s.dao s.dials.length s.dcap (s.dials.map fun d => .int .i64 (d : Nat)) * SP.all conn s.conns * R))) w := by
  unfold net at h
  exact h.eq (by ac_rfl)

theorem fresh_conn (b : Nat) : conn (Cn.fresh b) = SP.blk b (.cells #[.slice none 0 0, .int .i64 0, .bool false, .bool false, .bool false, .bool false, .string ByteArray.empty] 50) := by
  unfold conn Cn.fresh Cn.cells
  simp only [List.map_nil, List.length_nil, slo_nil, SP.mul_one]
  rfl

/-- Behind the first statement of Dial. -/
theorem dial_first {ao' : Option Addr} {cap' : Nat} {w1 : World} {B : Nat} {o : Obj}
    (h : St w0 (slo 48 1 ao' (s.conns.length + 1) cap' ((s.conns.map fun c => ptr c.blk) ++ [ptr B]) * (SP.blk (B + 1) o * (conn (Cn.fresh B) * (SP.blk a (.cells s.head 27 (0, 0)) *
      (slo 3 1 s.dao s.dials.length s.dcap (s.dials.map fun d => .int .i64 (d : Nat)) * SP.all conn s.conns * R))))) w1) :
    St w0 (net a { s with ao := ao', cap := cap', conns := s.conns ++ [Cn.fresh B] } * R) (w1.setCell ⟨a, 0, none⟩ (.slice ao' (s.conns.length + 1) cap')) := by
  have h2 := (h.eq (SP.mul_left_comm _ _ _)).drop
  have h3 : St w0 (SP.blk a (.cells s.head 27 (0, 0)) * (slo 48 1 ao' (s.conns.length + 1) cap' ((s.conns.map fun c => ptr c.blk) ++ [ptr B]) * (slo 3 1 s.dao s.dials.length s.dcap (s.dials.map fun d => .int .i64 (d : Nat)) * (SP.all conn s.conns * conn (Cn.fresh B)) * R))) w1 := h2.eq (by ac_rfl)
  have h4 := h3.setCell (i := 0) (.slice ao' (s.conns.length + 1) cap')
  unfold net
  simp only [List.length_append, List.length_cons, List.length_nil, List.map_append, List.map_cons, List.map_nil, SP.all_append, SP.all, SP.mul_one]
  refine h4.eq ?_
  rw [show ({ s with ao := ao', cap := cap', conns := s.conns ++ [Cn.fresh B] } : Ns).head = s.head.setIfInBounds 0 (.slice ao' (s.conns.length + 1) cap') by simp [Ns.head]]
  rw [show (Cn.fresh B).blk = B from rfl]
  ac_rfl

set_option maxHeartbeats 2000000 in
theorem dial_any (h : St w0 (net a s * R) w) (b1 : s.conns.length ≤ 1000000) (b2 : s.dials.length ≤ 1000000) :
    Calls Try.prog 5 #[.pointer (some ⟨a, 0, none⟩)] w fun e w' => e = .returned (.int .i64 s.conns.length) ∧
      ∃ B ao' cap' dao' dcap', St w0 (net a { ao := ao', cap := cap', conns := s.conns ++ [Cn.fresh B], dao := dao', dcap := dcap', dials := s.dials ++ [s.conns.length] } * R) w' := by
  have h0 := h.net_head.1
  have hl := h.net_list
  have ha := (hl.eq (SP.mul_left_comm _ _ _)).lt
  have hl2 : St w0 (slo 48 1 s.ao s.conns.length s.cap (s.conns.map fun c => ptr c.blk) * (SP.blk (w.heap.size + 1) (.cells #[ptr w.heap.size] 48) * (conn (Cn.fresh w.heap.size) * (SP.blk a (.cells s.head 27 (0, 0)) *
      (slo 3 1 s.dao s.dials.length s.dcap (s.dials.map fun d => .int .i64 (d : Nat)) * SP.all conn s.conns * R)))))
      ((w.alloc (.cells #[.slice none 0 0, .int .i64 0, .bool false, .bool false, .bool false, .bool false, .string ByteArray.empty] 50)).alloc (.cells #[ptr w.heap.size] 48)) := by
    rw [fresh_conn]
    have g := (hl.alloc1 (.cells #[.slice none 0 0, .int .i64 0, .bool false, .bool false, .bool false, .bool false, .string ByteArray.empty] 50)).alloc1 (.cells #[ptr w.heap.size] 48)
    simpa using g
  have HL2 := Lib.hid hl2
  clear hl2 hl h
  obtain ⟨i0, hi, hz0, hz1, hz2⟩ := info_parts info_conn
  obtain ⟨j0, hj, hy0, hy1, hy2⟩ := info_parts info_int
  unfold ptr at HL2
  go_enter Try.func5, Try.ntmps5
  go_wp2_with (at_builtin; refine wpList_append_slo rfl _ _ 24 rfl i0 (.pointer none) 8 Try.underlying24 hi hz0 hz1 hz2 rfl (by decide) HL2.out rfl ⟨w.heap.size + 1, 0, none⟩ 1 1 [.pointer (some ⟨w.heap.size, 0, none⟩)] rfl rfl ?c1 ?c2 ?c3 ?c4 ?_)
  case c1 =>
    intro j u hj
    match j, hj with
    | 0, hj => simp at hj; subst hj; simp [Addr.add]
  case c2 => intro u hu; simp at hu; subst hu; rfl
  case c3 => omega
  case c4 => unfold maxLen; omega
  intro ao' cap' w1 hw1
  have g := hw1.drop.drop.drop
  have g0 : w1.cell? ⟨a, 0, none⟩ = some (.slice s.ao s.conns.length s.cap) := by rw [g.cell]; rfl
  have gf := g.free
  have hw2 := dial_first hw1
  clear hw1 g
  go_wp2
  generalize w1.setCell ⟨a, 0, none⟩ (.slice ao' (s.conns.length + 1) cap') = w2 at *
  clear g0 gf
  obtain ⟨k0, k1⟩ := hw2.net_head
  simp only [List.length_append, List.length_cons, List.length_nil, Nat.zero_add] at k0 k1
  have hD := hw2.net_dials
  have ha2 := (hD.eq (SP.mul_left_comm _ _ _)).lt
  have hD2 := (hD.alloc1 (.cells #[.int .i64 s.conns.length] 3)).drew
  have hb1 : (s.dials.length + 1) * 8 ≤ 140737488355328 := by omega
  have hb2 : s.dials.length + 1 ≤ maxLen := by unfold maxLen; omega
  have hwr : IntKind.i64.wrap (s.conns.length : Int) = s.conns.length := IntWalk.i64_in _ (by omega)
  have HD2 := Lib.hid hD2
  have hcl : ∀ ao2 cap2 w3, St w0 (slo 3 1 ao2 (s.dials.length + 1) cap2 (s.dials.map (fun d => .int .i64 (d : Nat)) ++ [.int .i64 s.conns.length]) *
      (SP.blk w2.heap.size (.cells #[.int .i64 s.conns.length] 3) * (SP.blk a (.cells ({ s with ao := ao', cap := cap', conns := s.conns ++ [Cn.fresh w.heap.size] } : Ns).head 27 (0, 0)) *
      (slo 48 1 ao' (s.conns ++ [Cn.fresh w.heap.size]).length cap' ((s.conns ++ [Cn.fresh w.heap.size]).map fun c => ptr c.blk) * SP.all conn (s.conns ++ [Cn.fresh w.heap.size]) * R)))) w3 →
      w3.cell? ⟨a, 0, none⟩ = some (.slice ao' (s.conns.length + 1) cap') ∧ w3.cell? ⟨a, 1, none⟩ = some (.slice s.dao s.dials.length s.dcap) ∧ (∀ i, w3.frozen? ⟨a, i, none⟩ = false) ∧
      ∀ w4, w4 = w3.setCell ⟨a, 1, none⟩ (.slice ao2 (s.dials.length + 1) cap2) →
      ∃ B ao' cap' dao' dcap', St w0 (net a { ao := ao', cap := cap', conns := s.conns ++ [Cn.fresh B], dao := dao', dcap := dcap', dials := s.dials ++ [s.conns.length] } * R) w4 := by
    intro ao2 cap2 w3 h3
    have g := h3.drop.drop
    refine ⟨by rw [g.cell]; simp [Ns.head], by rw [g.cell]; simp [Ns.head], fun i => g.free i, ?_⟩
    rintro w4 rfl
    refine ⟨w.heap.size, ao', cap', ao2, cap2, ?_⟩
    have g2 := (h3.eq (SP.mul_left_comm _ _ _)).drop
    have e : (s.dials ++ [s.conns.length]).map (fun d : Nat => Value.int .i64 d) = s.dials.map (fun d : Nat => Value.int .i64 d) ++ [.int .i64 s.conns.length] := by simp
    exact St.net_dials_set (s := { s with ao := ao', cap := cap', conns := s.conns ++ [Cn.fresh w.heap.size] }) (q := s.dials ++ [s.conns.length]) (by simp) (g2.eq (by rw [e]))
  have Hcl := Lib.hid hcl
  clear hcl hD hD2 hw2
  go_region_law (refine step_append_slo rfl _ _ 25 rfl j0 (.int .i64 0) 8 Try.underlying25 hj hy0 hy1 hy2 rfl (by decide) HD2.out rfl ⟨w2.heap.size, 0, none⟩ 1 1 [.int .i64 s.conns.length] rfl rfl (by intro j u hj; match j, hj with | 0, hj => (simp at hj; subst hj; simp [Addr.add])) (by intro u hu; simp at hu; subst hu; rfl) hb1 hb2 ?_; intro ao2 cap2 w3 hw3; obtain ⟨m0, m1, mf, mk⟩ := Hcl.out ao2 cap2 w3 hw3; have Mk := Lib.hid mk; clear mk hw3)
  all_goals
    clear hwr
    go_wp2
    go_ret
    exact ⟨rfl, Mk.out _ rfl⟩
end
end Go.Proofs.Ytdgohegjpehofaa
