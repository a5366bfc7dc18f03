/- NetRuns: the arm Dial. -/
import Derived.Test.YtdgohegjpehofaaNetArmAcc
namespace Go.Proofs.Ytdgohegjpehofaa
open Go.RowKit

theorem info_mcn : (Try.prog.info? 31).map (fun i => (i.zero, i.size, i.bytes)) = some (some (.pointer none), 1, 8) := by kernel_rfl

section
variable {W w : World} {l : Lw}
theorem St.law_ms {R : SP} (h : St W (law l * R) w) :
    St W (slo 31 1 l.ao l.ms.length l.cap (l.ms.map fun c => ptr c.blk) * (slo 3 1 l.dao l.dials.length l.dcap (l.dials.map fun d => .int .i64 (d : Nat)) * (SP.all mcn l.ms * R))) w := by
  unfold law at h
  exact h.eq (by ac_rfl)

theorem St.law_ms_back {R : SP} {ao : Option Addr} {n cap : Nat} {q : List Mn} (hn : n = q.length)
    (h : St W (slo 31 1 ao n cap (q.map fun c => ptr c.blk) * (slo 3 1 l.dao l.dials.length l.dcap (l.dials.map fun d => .int .i64 (d : Nat)) * (SP.all mcn q * R))) w) :
    St W (law { l with ao := ao, cap := cap, ms := q } * R) w := by
  subst hn
  unfold law
  exact h.eq (by ac_rfl)
end

set_option maxRecDepth 100000 in
set_option maxHeartbeats 8000000 in
theorem arm_dial : Arm 0 (fun _ _ _ => True) := by
  intro W a k s l cb K I D x v0 v23 v24 v25 t w Kc Q H _ hK
  obtain ⟨f, ef, ⟨g0, g3, g4, g5, g23, g24, g25⟩, g7, g8, g52⟩ := H.frame
  obtain ⟨-, -, -, -, -, hST, hsyn, hD, hk⟩ := H
  have hc := hsyn.conns
  have hf := hsyn.few
  have hlen := hsyn.len
  have c1 := dial_any hST (by omega) (by omega)
  have m1 : l.ms.length ≤ 1000 := by omega
  have m2 : l.dials.length ≤ 1000 := by rw [← hsyn.dials]; omega
  rw [hlen] at c1
  refine wp_normal (J := Kc) ?_ (fun _ _ h => h)
  rw [ef, fr403, g0, g3, g4, g5, g7, g8, g23, g24, g25, g52]
  clear g0 g3 g4 g5 g7 g8 g23 g24 g25 g52 ef
  have hfin : ∀ w1, (∃ B ao' cap' dao' dcap', St W (net a { ao := ao', cap := cap', conns := s.conns ++ [Cn.fresh B], dao := dao', dcap := dcap', dials := s.dials ++ [l.ms.length] } * (law l * callB cb K I D)) w1) →
      ∃ N, St W (slo 3 1 l.dao l.dials.length l.dcap (l.dials.map fun d => .int .i64 (d : Nat)) * (slo 31 1 l.ao l.ms.length l.cap (l.ms.map fun c => ptr c.blk) * (SP.all mcn l.ms * N))) w1 ∧
      ∀ w2 dao dcap, St W (slo 3 1 dao (l.dials.length + 1) dcap ((l.dials.map fun d => .int .i64 (d : Nat)) ++ [.int .i64 l.ms.length]) * (SP.blk w1.heap.size (.cells #[.int .i64 l.ms.length] 3) * (slo 31 1 l.ao l.ms.length l.cap (l.ms.map fun c => ptr c.blk) * (SP.all mcn l.ms * N)))) w2 →
      ∃ N2, St W (slo 31 1 l.ao l.ms.length l.cap (l.ms.map fun c => ptr c.blk) * N2)
          ((w2.alloc (.cells #[.slice none 0 0, .int .i64 0, .bool false, .bool false, .bool false, .string ByteArray.empty] 35)).alloc (.cells #[ptr w2.heap.size] 31)) ∧
      ∀ w3 ao cap, St W (slo 31 1 ao (l.ms.length + 1) cap ((l.ms.map fun c => ptr c.blk) ++ [ptr w2.heap.size]) * N2) w3 →
      ∀ f, (f 0 = v0 ∧ f 3 = ptr a ∧ f 4 = .slice ao (l.ms.length + 1) cap ∧ f 5 = .slice dao (l.dials.length + 1) dcap ∧ f 23 = v23 ∧ f 24 = v24 ∧ f 25 = v25) → Kc (Fr 403 f) w3 := by
    rintro w1 ⟨B, ao', cap', dao', dcap', hw1⟩
    refine ⟨_, hw1.front.law_dials, ?_⟩
    intro w2 dao dcap hw2
    have h2 := (hw2.front.drop)
    have e1 : (l.dials ++ [l.ms.length]).map (fun d : Nat => Value.int .i64 d) = l.dials.map (fun d : Nat => Value.int .i64 d) ++ [.int .i64 l.ms.length] := by simp
    rw [← e1] at h2
    have h3 := (h2.law_dials_back (by simp)).law_ms
    have h4 := (h3.alloc1 (.cells #[.slice none 0 0, .int .i64 0, .bool false, .bool false, .bool false, .string ByteArray.empty] 35)).alloc1 (.cells #[ptr w2.heap.size] 31)
    refine ⟨_, h4, ?_⟩
    rintro w3 ao cap hw3 f ⟨k0, k3, k4, k5, k23, k24, k25⟩
    have h5 := hw3.front.drop
    have e2 : (l.ms ++ [Mn.fresh w2.heap.size]).map (fun c => ptr c.blk) = (l.ms.map fun c => ptr c.blk) ++ [ptr w2.heap.size] := by simp [Mn.fresh]
    rw [← e2, ← fresh_mcn] at h5
    have h6 : St W (law { l with dao := dao, dcap := dcap, dials := l.dials ++ [l.ms.length], ao := ao, cap := cap, ms := l.ms ++ [Mn.fresh w2.heap.size] } * (net a { ao := ao', cap := cap', conns := s.conns ++ [Cn.fresh B], dao := dao', dcap := dcap', dials := s.dials ++ [l.ms.length] } * callB cb K I D)) w3 := by
      refine St.law_ms_back (l := { l with dao := dao, dcap := dcap, dials := l.dials ++ [l.ms.length] }) (ao := ao) (n := l.ms.length + 1) (cap := cap) (q := l.ms ++ [Mn.fresh w2.heap.size]) (by simp) (h5.eq ?_)
      rw [SP.all_append]
      simp only [SP.all, SP.mul_one]
      ac_rfl
    refine hK.out f w3 _ _ ⟨k0, k3, ?_, ?_, k23, k24, k25⟩ h6.front.leave ?_
    · rw [k4]; simp
    · rw [k5]; simp
    · have hm := hsyn.more
      refine ⟨?_, ?_, ?_, ?_, ?_, ?_⟩
      · simp [hsyn.ab, Cn.ab, Cn.fresh, Mn.fresh]
      · simp [hsyn.dials]
      · intro d hd
        simp only [List.mem_append, List.mem_singleton, List.length_append, List.length_cons, List.length_nil] at hd ⊢
        rcases hd with hd | rfl
        · have := hsyn.known d hd; omega
        · omega
      · simp; omega
      · simp; omega
      · intro c hc
        simp only [List.mem_append, List.mem_singleton] at hc
        rcases hc with hc | rfl
        · exact hm.light c hc
        · simp [Cn.fresh, ByteArray.size_empty]
  have Hfin := Lib.hid hfin
  obtain ⟨i0, hi, hz0, hz1, hz2⟩ := info_parts info_mcn
  obtain ⟨j0, hj, hy0, hy1, hy2⟩ := info_parts info_int
  have Hc := Lib.hid hlen
  clear hfin hST hsyn hK hc hf hlen
  conv => arg 2; whnf
  unfold ptr
  go_wp2_with (first | (go_at_call 5; refine c1.mono ?_; rintro e w1 ⟨rfl, hw1⟩; obtain ⟨N, r1, r2⟩ := Hfin.out w1 hw1; have HR1 := Lib.hid r1; have HR2 := Lib.hid r2; clear hw1 r1 r2) | (at_builtin; refine wpList_append_slo rfl _ _ 25 rfl j0 (.int .i64 0) 8 Try.underlying25 hj hy0 hy1 hy2 rfl (by decide) (HR1.out.alloc1 _) rfl ⟨w1.heap.size, 0, none⟩ 1 1 [.int .i64 l.ms.length] rfl rfl ?c1 ?c2 ?c3 ?c4 ?_))
  case c1 =>
    intro j u hj
    match j, hj with
    | 0, hj => simp at hj; subst hj; simp [Addr.add]
  case c2 => intro u hu; simp at hu; subst hu; rfl
  case c3 => omega
  case c4 => unfold maxLen; omega
  intro dao dcap w2 hw2
  obtain ⟨N2, r3, r4⟩ := HR2.out w2 dao dcap hw2
  have HR3 := Lib.hid r3
  have HR4 := Lib.hid r4
  clear hw2 r3 r4
  unfold ptr at HR3
  go_wp2_with (at_builtin; refine wpList_append_slo rfl _ _ 28 rfl i0 (.pointer none) 8 Try.underlying28 hi hz0 hz1 hz2 rfl (by decide) HR3.out rfl ⟨w2.heap.size + 1, 0, none⟩ 1 1 [.pointer (some ⟨w2.heap.size, 0, none⟩)] rfl rfl ?d1 ?d2 ?d3 ?d4 ?_)
  case d1 =>
    intro j u hj
    match j, hj with
    | 0, hj => simp at hj; subst hj; simp [Addr.add]
  case d2 => intro u hu; simp at hu; subst hu; rfl
  case d3 => omega
  case d4 => unfold maxLen; omega
  intro ao cap w3 hw3
  have Hw3 := Lib.hid hw3
  clear hw3
  go_wp2_with fail
  rw [fr_of 403 _ rfl]
  exact HR4.out _ _ _ Hw3.out _ ⟨rfl, rfl, rfl, rfl, rfl, rfl, rfl⟩
end Go.Proofs.Ytdgohegjpehofaa
