/- The network's methods that write slices: Reset, Read, Accept, Send, Dial. -/
import Derived.Test.YtdgohegjpehofaaNetC
namespace Go.Proofs.Ytdgohegjpehofaa
open Go.RowKit

section
variable {w0 w : World} {R : SP} {a : Nat} {s : Ns}

/-- Another queue of what came. -/
theorem St.conn_inq {c : Cn} {ao : Option Addr} {n cap : Nat} {q : List ByteArray} (hn : n = q.length)
    (h : St w0 (slo 9 1 ao n cap (q.map .string) * (SP.blk c.blk (.cells c.cells 50 (0, 0)) * R)) w) :
    St w0 (conn { c with ao := ao, cap := cap, inq := q } * R) (w.setCell ⟨c.blk, 0, none⟩ (.slice ao n cap)) := by
  subst hn
  have h' := (h.eq (SP.mul_left_comm _ _ _)).setCell (i := 0) (.slice ao q.length cap)
  unfold conn
  rw [SP.mul_assoc]
  exact h'

theorem St.conn_came {c : Cn} (h : St w0 (conn c * R) w) (n : Nat) {v : Int} (hv : v = n) : St w0 (conn { c with came := n } * R) (w.setCell ⟨c.blk, 1, none⟩ (.int .i64 v)) := by
  subst hv
  unfold conn at h ⊢
  rw [SP.mul_assoc] at h ⊢
  exact h.setCell (i := 1) (.int .i64 n)

theorem St.conn_split {c : Cn} (h : St w0 (conn c * R) w) : St w0 (slo 9 1 c.ao c.inq.length c.cap (c.inq.map .string) * (SP.blk c.blk (.cells c.cells 50 (0, 0)) * R)) w := by
  unfold conn at h
  exact h.eq (by ac_rfl)

set_option maxHeartbeats 1000000 in
theorem reset_ok (h : St w0 (net a s * R) w) (k : Nat) (hk : k < s.conns.length) (hok : resetOk (some s.conns[k]) = true) :
    Calls Try.prog 8 #[.pointer (some ⟨a, 0, none⟩), .int .i64 k] w fun e w' => e = .returned (.bool true) ∧ St w0 (net a (s.put k { s.conns[k] with reset := true, ao := none, cap := 0, inq := [] }) * R) w' := by
  have hat := at_some h k hk
  have hS := h.net_conn hk
  obtain ⟨h0, h1, h2, h3, h4, h5, h6, hf⟩ := hS.conn_cells
  have hfin : ∀ w', w' = (w.setCell ⟨s.conns[k].blk, 3, none⟩ (.bool true)).setCell ⟨s.conns[k].blk, 0, none⟩ (.slice none 0 0) → St w0 (net a (s.put k { s.conns[k] with reset := true, ao := none, cap := 0, inq := [] }) * R) w' := by
    rintro _ rfl
    have h2 := (hS.conn_reset true).conn_split.drop
    have h3 : St w0 (slo 9 1 none 0 0 (([] : List ByteArray).map .string) * (SP.blk s.conns[k].blk (.cells ({ s.conns[k] with reset := true } : Cn).cells 50 (0, 0)) * (netBut a s k * R))) _ := h2.eq (by rw [List.map_nil, slo_nil, SP.one_mul])
    exact (St.conn_inq (c := { s.conns[k] with reset := true }) (q := []) rfl h3).net_back hk rfl
  have Hfin := Lib.hid hfin
  clear hfin
  generalize net a (s.put k { s.conns[k] with reset := true, ao := none, cap := 0, inq := [] }) = N at *
  generalize s.conns[k] = c at *
  unfold ptr at hat
  clear h hS
  obtain ⟨cb, ao, cap, inq, came, shut, reset, taken, closed, out⟩ := c
  simp only [resetOk] at *
  cases reset <;> cases closed
  all_goals first
    | (exfalso; revert hok; decide)
    | (clear hok
       go_enter Try.func8, Try.ntmps8
       go_wp2_with (go_at_call 20; refine hat.mono ?_; rintro e w' ⟨rfl, rfl⟩)
       go_ret
       exact ⟨rfl, Hfin.out _ rfl⟩)

/-- Is there something to be read? -/
def readOk : Option Cn → Bool
  | none => false
  | some c => !c.inq.isEmpty

set_option maxHeartbeats 1000000 in
theorem read_no (h : St w0 (net a s * R) w) (i : Int) (hno : readOk (s.at? i) = false) :
    Calls Try.prog 10 #[.pointer (some ⟨a, 0, none⟩), .int .i64 i] w fun e w' => e = .returned (.tuple #[.string ByteArray.empty, .bool false]) ∧ w = w' := by
  cases hc : s.at? i with
  | none =>
    have hat := at_none h i (at?_none hc)
    clear hc h hno
    go_enter Try.func10, Try.ntmps10
    go_wp2_with (go_at_call 20; refine hat.mono ?_; rintro e w' ⟨rfl, rfl⟩)
    go_ret2
    exact ⟨rfl, rfl⟩
  | some c =>
    rw [hc] at hno
    obtain ⟨k, rfl, hk, rfl⟩ := at?_some hc
    have hat := at_some h k hk
    obtain ⟨h0, -⟩ := (h.net_conn hk).conn_cells
    generalize s.conns[k] = c at *
    unfold ptr at hat
    clear hc h
    obtain ⟨cb, ao, cap, inq, came, shut, reset, taken, closed, out⟩ := c
    simp only [readOk] at *
    cases inq with
    | cons x r => exfalso; revert hno; simp
    | nil =>
      simp only [List.length_nil] at h0
      clear hno
      go_enter Try.func10, Try.ntmps10
      go_wp2_with (go_at_call 20; refine hat.mono ?_; rintro e w' ⟨rfl, rfl⟩)
      go_ret2
      exact ⟨rfl, rfl⟩

set_option maxHeartbeats 1000000 in
theorem read_ok (h : St w0 (net a s * R) w) (k : Nat) (hk : k < s.conns.length) (x : ByteArray) (r : List ByteArray) (hok : s.conns[k].inq = x :: r) :
    Calls Try.prog 10 #[.pointer (some ⟨a, 0, none⟩), .int .i64 k] w fun e w' => e = .returned (.tuple #[.string x, .bool true]) ∧
      St w0 (net a (s.put k { s.conns[k] with ao := cutAt s.conns[k].ao s.conns[k].cap 1 1, cap := s.conns[k].cap - 1, inq := r }) * R) w' := by
  have hat := at_some h k hk
  have hS := h.net_conn hk
  obtain ⟨h0, h1, h2, h3, h4, h5, h6, hf⟩ := hS.conn_cells
  have hl := hS.conn_split.slo_len
  obtain ⟨g, off, hao, hcell⟩ := hS.conn_split.slo_cell (by rw [hok]; simp)
  have hx := hcell 0 (by rw [hok]; simp)
  rw [hok] at h0 hl hx
  simp only [Nat.add_zero, List.map_cons, List.getElem?_cons_zero] at hx
  simp only [List.length_cons] at h0 hl
  have hfin : ∀ w' ao', ao' = cutAt s.conns[k].ao s.conns[k].cap 1 1 → w' = w.setCell ⟨s.conns[k].blk, 0, none⟩ (.slice ao' r.length (s.conns[k].cap - 1)) →
      St w0 (net a (s.put k { s.conns[k] with ao := cutAt s.conns[k].ao s.conns[k].cap 1 1, cap := s.conns[k].cap - 1, inq := r }) * R) w' := by
    rintro _ _ rfl rfl
    have h2 := hS.conn_split
    rw [hok] at h2
    have h3 := h2.slo_cut (k := 1) (by simp)
    refine (St.conn_inq (c := s.conns[k]) (q := r) rfl (h3.eq ?_)).net_back hk rfl
    simp
  have Hfin := Lib.hid hfin
  clear hfin hcell
  generalize net a (s.put k { s.conns[k] with ao := cutAt s.conns[k].ao s.conns[k].cap 1 1, cap := s.conns[k].cap - 1, inq := r }) = N at *
  generalize s.conns[k] = c at *
  unfold ptr at hat
  clear h hS hok
  obtain ⟨cb, ao, cap, inq, came, shut, reset, taken, closed, out⟩ := c
  simp only at *
  subst hao
  obtain ⟨-, hl, -⟩ := hl
  by_cases hcap : cap = 1
  · subst hcap
    obtain rfl : r = [] := List.eq_nil_of_length_eq_zero (by omega)
    simp only [List.length_nil, Nat.zero_add] at h0
    go_enter Try.func10, Try.ntmps10
    go_wp2_with (go_at_call 20; refine hat.mono ?_; rintro e w' ⟨rfl, rfl⟩)
    go_ret2
    exact ⟨rfl, Hfin.out _ _ rfl rfl⟩
  · go_enter Try.func10, Try.ntmps10
    go_wp2_with (go_at_call 20; refine hat.mono ?_; rintro e w' ⟨rfl, rfl⟩)
    go_ret2
    exact ⟨rfl, Hfin.out _ _ (by simp [cutAt, hcap, Addr.add]) rfl⟩

theorem SP.two (A B C D R : SP) : (A * B) * ((C * D) * R) = A * (C * (B * (D * R))) := by ac_rfl

theorem St.net_dials (h : St w0 (net a s * R) w) :
    St w0 (slo 3 1 s.dao s.dials.length s.dcap (s.dials.map fun d => .int .i64 (d : Nat)) * (SP.blk a (.cells s.head 27 (0, 0)) *
      (slo 48 1 s.ao s.conns.length s.cap (s.conns.map fun c => ptr c.blk) * SP.all conn s.conns * R))) w := by
  unfold net at h
  exact h.eq (by ac_rfl)

/-- Another queue of who dialled. -/
theorem St.net_dials_set {ao : Option Addr} {n cap : Nat} {q : List Nat} (hn : n = q.length)
    (h : St w0 (slo 3 1 ao n cap (q.map fun d => .int .i64 (d : Nat)) * (SP.blk a (.cells s.head 27 (0, 0)) *
      (slo 48 1 s.ao s.conns.length s.cap (s.conns.map fun c => ptr c.blk) * SP.all conn s.conns * R))) w) :
    St w0 (net a { s with dao := ao, dcap := cap, dials := q } * R) (w.setCell ⟨a, 1, none⟩ (.slice ao n cap)) := by
  subst hn
  have h' := (h.eq (SP.mul_left_comm _ _ _)).setCell (i := 1) (.slice ao q.length cap)
  unfold net
  have h2 : St w0 (SP.blk a (.cells ({ s with dao := ao, dcap := cap, dials := q } : Ns).head 27 (0, 0)) * (slo 3 1 ao q.length cap (q.map fun d => .int .i64 (d : Nat)) *
      (slo 48 1 s.ao s.conns.length s.cap (s.conns.map fun c => ptr c.blk) * SP.all conn s.conns * R))) (w.setCell ⟨a, 1, none⟩ (.slice ao q.length cap)) := h'
  exact h2.eq (by ac_rfl)

set_option maxHeartbeats 1000000 in
theorem accept_no (h : St w0 (net a s * R) w) (hno : s.dials = []) :
    Calls Try.prog 9 #[.pointer (some ⟨a, 0, none⟩)] w fun e w' => e = .returned (.tuple #[.int .i64 0, .bool false]) ∧ w = w' := by
  have h0 := h.net_head.2
  rw [hno] at h0
  simp only [List.length_nil] at h0
  clear h hno
  go_enter Try.func9, Try.ntmps9
  go_wp2
  go_ret2
  exact ⟨rfl, rfl⟩

set_option maxHeartbeats 1000000 in
theorem accept_ok (h : St w0 (net a s * R) w) (k : Nat) (r : List Nat) (hd : s.dials = k :: r) (hk : k < s.conns.length) :
    Calls Try.prog 9 #[.pointer (some ⟨a, 0, none⟩)] w fun e w' => e = .returned (.tuple #[.int .i64 k, .bool true]) ∧
      St w0 (net a { s.put k { s.conns[k] with taken := true } with dao := cutAt s.dao s.dcap 1 1, dcap := s.dcap - 1, dials := r } * R) w' := by
  have h0 := h.net_head
  have hlen := h.net_len
  unfold maxLen at hlen
  have hd' := h.net_dials
  have hl := hd'.slo_len
  obtain ⟨g, off, hdao, hcell⟩ := hd'.slo_cell (by rw [hd]; simp)
  have hx := hcell 0 (by rw [hd]; simp)
  rw [hd] at h0 hl hx
  simp only [Nat.add_zero, List.map_cons, List.getElem?_cons_zero] at hx
  simp only [List.length_cons] at h0 hl
  obtain ⟨g2, off2, hao, hp, hne2⟩ := h.net_ptr hk
  have hne3 := hne2.symm
  obtain ⟨hh0, hh1⟩ := h0
  have hfz : w.frozen? ⟨a, 1, none⟩ = false := by
    have h' := h
    unfold net at h'
    rw [SP.mul_assoc] at h'
    exact h'.free 1
  have hne : s.conns[k].blk ≠ a := by
    have h' := h.net_conn hk
    unfold conn netBut at h'
    exact (h'.eq (SP.two _ _ _ _ _)).ne
  have hc4 := (h.net_conn hk).conn_cells
  obtain ⟨-, -, -, -, hc4, -, -, hcf⟩ := hc4
  have hfin : ∀ w' ao', ao' = cutAt s.dao s.dcap 1 1 → w' = (w.setCell ⟨a, 1, none⟩ (.slice ao' r.length (s.dcap - 1))).setCell ⟨s.conns[k].blk, 4, none⟩ (.bool true) →
      St w0 (net a { s.put k { s.conns[k] with taken := true } with dao := cutAt s.dao s.dcap 1 1, dcap := s.dcap - 1, dials := r } * R) w' := by
    rintro _ _ rfl rfl
    have h2 := hd'
    rw [hd] at h2
    have h3 := h2.slo_cut (k := 1) (by simp)
    have h4 : St w0 (net a { s with dao := cutAt s.dao s.dcap 1 1, dcap := s.dcap - 1, dials := r } * R) _ := St.net_dials_set (q := r) rfl (h3.eq (by simp))
    have h5 := (h4.net_conn hk).conn_taken true
    exact St.net_back (s := { s with dao := cutAt s.dao s.dcap 1 1, dcap := s.dcap - 1, dials := r }) hk (c := { s.conns[k] with taken := true }) rfl h5
  have Hfin := Lib.hid hfin
  have Hne := hne
  clear hfin hcell hd' h
  generalize net a { s.put k { s.conns[k] with taken := true } with dao := cutAt s.dao s.dcap 1 1, dcap := s.dcap - 1, dials := r } = N at *
  generalize s.conns[k] = c at *
  unfold ptr at hp
  obtain ⟨-, hl, -⟩ := hl
  rw [hao] at hh0
  rw [hdao] at hh1
  have Hdao := Lib.hid hdao
  clear hdao hao hd
  by_cases hcap : s.dcap = 1
  · obtain rfl : r = [] := List.eq_nil_of_length_eq_zero (by omega)
    simp only [List.length_nil, Nat.zero_add] at hh1
    rw [hcap] at hh1
    have Hcap := Lib.hid hcap
    clear hcap
    go_enter Try.func9, Try.ntmps9
    go_wp2
    go_ret2
    exact ⟨rfl, Hfin.out _ _ rfl (by rw [Hdao.out, Hcap.out]; rfl)⟩
  · go_enter Try.func9, Try.ntmps9
    go_wp2
    go_ret2
    exact ⟨rfl, Hfin.out _ _ rfl (by rw [Hdao.out]; simp [cutAt, hcap, Addr.add])⟩

/-- May a client send? -/
def sendOk : Option Cn → ByteArray → Bool
  | none, _ => false
  | some c, d => !c.shut && !c.reset && !c.closed && !d.toList.isEmpty

set_option maxHeartbeats 2000000 in
theorem send_no (h : St w0 (net a s * R) w) (i : Int) (d : ByteArray) (hno : sendOk (s.at? i) d = false) :
    Calls Try.prog 6 #[.pointer (some ⟨a, 0, none⟩), .int .i64 i, .string d] w fun e w' => e = .returned (.bool false) ∧ w = w' := by
  cases hc : s.at? i with
  | none =>
    have hat := at_none h i (at?_none hc)
    clear hc h hno
    go_enter Try.func6, Try.ntmps6
    go_wp2_with (go_at_call 20; refine hat.mono ?_; rintro e w' ⟨rfl, rfl⟩)
    go_ret
    exact ⟨rfl, rfl⟩
  | some c =>
    rw [hc] at hno
    obtain ⟨k, rfl, hk, rfl⟩ := at?_some hc
    have hat := at_some h k hk
    obtain ⟨-, -, h2, h3, -, h5, -, -⟩ := (h.net_conn hk).conn_cells
    generalize s.conns[k] = c at *
    unfold ptr at hat
    clear hc h
    obtain ⟨cb, ao, cap, inq, came, shut, reset, taken, closed, out⟩ := c
    simp only [sendOk] at *
    by_cases hd : d.toList.isEmpty = true
    · have hd' : d.toList = [] := by simpa using hd
      have Hno := Lib.hid hno
      clear hno
      cases shut <;> cases reset <;> cases closed
      all_goals
        go_enter Try.func6, Try.ntmps6
        go_wp2_with (go_at_call 20; refine hat.mono ?_; rintro e w' ⟨rfl, rfl⟩)
        go_ret
        exact ⟨rfl, rfl⟩
    · have hd' : d.toList.isEmpty = false := by simpa using hd
      rw [hd'] at hno
      clear hd
      cases shut <;> cases reset <;> cases closed
      all_goals first
        | (exfalso; revert hno; decide)
        | (clear hno
           go_enter Try.func6, Try.ntmps6
           go_wp2_with (go_at_call 20; refine hat.mono ?_; rintro e w' ⟨rfl, rfl⟩)
           go_ret
           exact ⟨rfl, rfl⟩)

theorem info_string : (Try.prog.info? 9).map (fun i => (i.zero, i.size, i.bytes)) = some (some (.string ByteArray.empty), 1, 16) := by kernel_rfl

set_option maxHeartbeats 2000000 in
theorem send_ok (h : St w0 (net a s * R) w) (k : Nat) (hk : k < s.conns.length) (d : ByteArray) (hok : sendOk (some s.conns[k]) d = true)
    (b1 : s.conns[k].inq.length ≤ 1000000) (b2 : s.conns[k].came + d.size ≤ 9223372036854775807) :
    Calls Try.prog 6 #[.pointer (some ⟨a, 0, none⟩), .int .i64 k, .string d] w fun e w' => e = .returned (.bool true) ∧
      ∃ ao' cap', St w0 (net a (s.put k { s.conns[k] with ao := ao', cap := cap', inq := s.conns[k].inq ++ [d], came := s.conns[k].came + d.size }) * R) w' := by
  have hat := at_some h k hk
  have hS := h.net_conn hk
  obtain ⟨h0, h1, h2, h3, h4, h5, h6, hf⟩ := hS.conn_cells
  have hS2 := hS.conn_split
  have hfin : ∀ ao' cap' w1 w', St w0 (slo 9 1 ao' (s.conns[k].inq.length + 1) cap' (s.conns[k].inq.map .string ++ [.string d]) * (SP.blk w.heap.size (.cells #[.string d] 9) *
        (SP.blk s.conns[k].blk (.cells s.conns[k].cells 50 (0, 0)) * (netBut a s k * R)))) w1 →
      w' = (w1.setCell ⟨s.conns[k].blk, 0, none⟩ (.slice ao' (s.conns[k].inq.length + 1) cap')).setCell ⟨s.conns[k].blk, 1, none⟩ (.int .i64 (s.conns[k].came + d.size)) →
      ∃ ao' cap', St w0 (net a (s.put k { s.conns[k] with ao := ao', cap := cap', inq := s.conns[k].inq ++ [d], came := s.conns[k].came + d.size }) * R) w' := by
    rintro ao' cap' w1 _ hw1 rfl
    refine ⟨ao', cap', ?_⟩
    have g1 := (hw1.eq (show _ = SP.blk w.heap.size (.cells #[.string d] 9) * (slo 9 1 ao' (s.conns[k].inq.length + 1) cap' ((s.conns[k].inq ++ [d]).map .string) *
      (SP.blk s.conns[k].blk (.cells s.conns[k].cells 50 (0, 0)) * (netBut a s k * R))) by rw [List.map_append]; exact SP.mul_left_comm _ _ _)).drop
    have g2 := St.conn_inq (q := s.conns[k].inq ++ [d]) (by simp) g1
    exact (g2.conn_came (s.conns[k].came + d.size) (by simp)).net_back hk rfl
  have hcel : ∀ ao' cap' w1, St w0 (slo 9 1 ao' (s.conns[k].inq.length + 1) cap' (s.conns[k].inq.map .string ++ [.string d]) * (SP.blk w.heap.size (.cells #[.string d] 9) *
        (SP.blk s.conns[k].blk (.cells s.conns[k].cells 50 (0, 0)) * (netBut a s k * R)))) w1 →
      w1.cell? ⟨s.conns[k].blk, 0, none⟩ = some (.slice s.conns[k].ao s.conns[k].inq.length s.conns[k].cap) ∧ w1.cell? ⟨s.conns[k].blk, 1, none⟩ = some (.int .i64 s.conns[k].came) ∧ (∀ i, w1.frozen? ⟨s.conns[k].blk, i, none⟩ = false) := by
    intro ao' cap' w1 hw1
    have g := hw1.drop.drop
    exact ⟨by rw [g.cell]; rfl, by rw [g.cell]; rfl, fun i => g.free i⟩
  have Hfin := Lib.hid hfin
  have Hcel := Lib.hid hcel
  clear hfin hcel h4 h6
  generalize hN : (fun ao' cap' => net a (s.put k { s.conns[k] with ao := ao', cap := cap', inq := s.conns[k].inq ++ [d], came := s.conns[k].came + d.size })) = N at *
  clear hN
  generalize netBut a s k = NB at *
  generalize s.conns[k] = c at *
  unfold ptr at hat
  clear h hS
  obtain ⟨cb, ao, cap, inq, came, shut, reset, taken, closed, out⟩ := c
  simp only [sendOk] at *
  have hd' : d.toList.isEmpty = false := by
    cases e : d.toList.isEmpty with
    | false => rfl
    | true => rw [e] at hok; simp at hok
  rw [hd'] at hok
  obtain ⟨i0, hi, hz0, hz1, hz2⟩ := info_parts info_string
  have HS2 := Lib.hid hS2
  clear hS2
  cases shut <;> cases reset <;> cases closed
  all_goals first
    | (exfalso; revert hok; decide)
    | skip
  clear hok
  go_enter Try.func6, Try.ntmps6
  go_wp2_with (first | (go_at_call 20; refine hat.mono ?_; rintro e w' ⟨rfl, rfl⟩) | (at_builtin; refine wpList_append_slo rfl _ _ 33 rfl i0 (.string ByteArray.empty) 16 Try.underlying33 hi hz0 hz1 hz2 rfl (by decide) (HS2.out.alloc1 _) rfl ⟨w.heap.size, 0, none⟩ 1 1 [.string d] rfl rfl ?c1 ?c2 ?c3 ?c4 ?_))
  case c1 =>
    intro j u hj
    match j, hj with
    | 0, hj => simp at hj; subst hj; simp [Addr.add]
  case c2 => intro u hu; simp at hu; subst hu; rfl
  case c3 => omega
  case c4 => unfold maxLen; omega
  intro ao' cap' w1 hw1
  obtain ⟨g0, g1, gf⟩ := Hcel.out ao' cap' w1 hw1
  have Hw1 := Lib.hid hw1
  clear hw1
  go_wp2
  go_ret
  exact ⟨rfl, Hfin.out ao' cap' w1 _ Hw1.out rfl⟩

end
end Go.Proofs.Ytdgohegjpehofaa
