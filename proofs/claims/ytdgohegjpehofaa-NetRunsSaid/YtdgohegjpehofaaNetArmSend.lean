/- NetRuns: the arm Send at which there is such a connection. -/
import Derived.Test.YtdgohegjpehofaaNetLawE
import Derived.Deep.RegionLaw
import Derived.BigRegion
namespace Go.Proofs.Ytdgohegjpehofaa
open Go.RowKit

set_option maxRecDepth 100000 in
set_option maxHeartbeats 8000000 in
theorem arm_send_yes : Arm 1 XYes := by
  intro W a k s l cb K I D x v0 v23 v24 v25 t w Kc Q H ⟨j, hj, hI, hx⟩ hK
  obtain ⟨f, ef, ⟨g0, g3, g4, g5, g23, g24, g25⟩, g7, g8, g52⟩ := H.frame
  obtain ⟨-, -, -, -, -, hST, hsyn, hD, hk⟩ := H
  subst hI hx
  have hj' : j < s.conns.length := by rw [hsyn.len]; exact hj
  have hab := hsyn.at hj' hj
  have hlt := hsyn.light' hj'
  have hsh : s.conns[j].shut = l.ms[j].ab.shut := congrArg Ab.shut hab
  have hre : s.conns[j].reset = l.ms[j].ab.reset := congrArg Ab.reset hab
  have hcl : s.conns[j].closed = l.ms[j].ab.closed := congrArg Ab.closed hab
  have hin : s.conns[j].inq = l.ms[j].ab.inq := congrArg Ab.inq hab
  have hca : s.conns[j].came = l.ms[j].ab.came := congrArg Ab.came hab
  have hou : s.conns[j].out = l.ms[j].ab.out := congrArg Ab.out hab
  obtain ⟨e0, e1, e2⟩ := call_cells hST
  obtain ⟨h0, h1, h2, h3, h4, h5, h6⟩ := (both hST hj).mcn_cells
  have hfst : ∀ w', w' = w → St W (net a s * (law l * 1)) w' := by rintro _ rfl; exact hST.leave
  refine wp_normal (J := Kc) ?_ (fun _ _ h => h)
  rw [ef, fr403, g0, g3, g4, g5, g7, g8, g23, g24, g25, g52]
  clear g0 g3 g4 g5 g7 g8 g23 g24 g25 g52 ef
  cases hd : D.toList.isEmpty <;> cases es : l.ms[j].ab.shut <;> cases er : l.ms[j].ab.reset <;> cases ec : l.ms[j].ab.closed
  · have hd' : (!D.toList.isEmpty) = true := by rw [hd]; rfl
    have c1 := send_ok hST j hj' D (by simp [sendOk, *]) (by omega) (by omega)
    have b1 : l.ms[j].ab.inq.length ≤ 1000 := by rw [← hin]; omega
    have b2 : l.ms[j].ab.came + D.size ≤ 9223372036854775807 := by rw [← hca]; omega
    have hfin : ∀ w1, (∃ ao' cap', St W (net a (s.put j { s.conns[j] with ao := ao', cap := cap', inq := s.conns[j].inq ++ [D], came := s.conns[j].came + D.size }) * (law l * callB cb K (j : Int) D)) w1) →
      (w1.cell? ⟨cb, 0, none⟩ = some (.int .i64 K) ∧ w1.cell? ⟨cb, 1, none⟩ = some (.int .i64 (j : Int)) ∧ w1.cell? ⟨cb, 2, none⟩ = some (.string D)) ∧
      (w1.cell? ⟨l.ms[j].blk, 0, none⟩ = some (.slice l.ms[j].ao l.ms[j].ab.inq.length l.ms[j].cap) ∧ cb < w1.heap.size ∧ l.ms[j].blk < w1.heap.size ∧ cb ≠ l.ms[j].blk) ∧
      ∃ RR, St W (slo 9 1 l.ms[j].ao l.ms[j].ab.inq.length l.ms[j].cap (l.ms[j].ab.inq.map .string) * RR) w1 ∧
      ∀ w2 ao2 cap2 o, St W (slo 9 1 ao2 (l.ms[j].ab.inq.length + 1) cap2 (l.ms[j].ab.inq.map .string ++ [.string D]) * (SP.blk w1.heap.size o * RR)) w2 →
        ((w2.cell? ⟨cb, 2, none⟩ = some (.string D)) ∧ w2.cell? ⟨l.ms[j].blk, 0, none⟩ = some (.slice l.ms[j].ao l.ms[j].ab.inq.length l.ms[j].cap) ∧ w2.cell? ⟨l.ms[j].blk, 1, none⟩ = some (.int .i64 l.ms[j].ab.came) ∧ (∀ i, w2.frozen? ⟨l.ms[j].blk, i, none⟩ = false)) ∧
        (∀ f, Goes f a s l v0 v23 v24 v25 → ∀ w3, w3 = ((w2.setCell ⟨l.ms[j].blk, 0, none⟩ (.slice ao2 (l.ms[j].ab.inq.length + 1) cap2)).setCell ⟨l.ms[j].blk, 1, none⟩ (.int .i64 (l.ms[j].ab.came + D.size))).drew → Kc (Fr 403 f) w3) := by
      rintro w1 ⟨ao', cap', hw1⟩
      have hb := both hw1 hj
      refine ⟨call_cells hw1, ⟨hb.mcn_cells.1, (hw1.drop.drop).lt, hb.mcn_lt, ?_⟩, _, hb.mcn_split, ?_⟩
      · have g : St W (callB cb K (j : Int) D * (mcn l.ms[j] * (lawBut l j * net a (s.put j { s.conns[j] with ao := ao', cap := cap', inq := s.conns[j].inq ++ [D], came := s.conns[j].came + D.size })))) w1 := hb.eq (by ac_rfl)
        unfold callB mcn at g
        exact (g.eq (show _ = SP.blk cb (.cells #[.int .i64 K, .int .i64 (j : Int), .string D] 30) * (SP.blk l.ms[j].blk (.cells l.ms[j].cells 35) * (slo 9 1 l.ms[j].ao l.ms[j].ab.inq.length l.ms[j].cap (l.ms[j].ab.inq.map .string) * (lawBut l j * net a (s.put j { s.conns[j] with ao := ao', cap := cap', inq := s.conns[j].inq ++ [D], came := s.conns[j].came + D.size })) * 1)) by ac_rfl)).ne
      · intro w2 ao2 cap2 o hw2
        have g1 := hw2.front.drop
        have g2 := hw2.drop.drop
        refine ⟨⟨(call_cells g2.drop).2.2, by rw [g2.cell]; rfl, by rw [g2.cell]; rfl, fun i => g2.free i⟩, ?_⟩
        intro f hg w3 hw3
        subst hw3
        have g3 := St.mcn_inq (c := l.ms[j]) (ao := ao2) (n := l.ms[j].ab.inq.length + 1) (cap := cap2) (q := l.ms[j].ab.inq ++ [D]) (by simp) (g1.eq (by rw [List.map_append]; rfl))
        refine fin_put (cb := cb) (K := K) (I := (j : Int)) (D := D) hK hsyn hj (c := { s.conns[j] with ao := ao', cap := cap', inq := s.conns[j].inq ++ [D], came := s.conns[j].came + D.size }) (m := { l.ms[j] with ao := ao2, cap := cap2, ab := { l.ms[j].ab with inq := l.ms[j].ab.inq ++ [D], came := l.ms[j].ab.came + D.size } }) rfl (by simp [Cn.ab, *]) (by simp; omega) hg ?_
        exact (g3.mcn_came (l.ms[j].ab.came + D.size) (by simp)).drew
    have Hfin := Lib.hid hfin
    clear hfin hfst hsyn hK hin hca hou hsh hre hcl hab
    simp only [es, er, ec] at h2 h3 h4
    generalize l.ms[j] = m at *
    conv => arg 2; whnf
    unfold ptr
    obtain ⟨i0, hi, hz0, hz1, hz2⟩ := info_parts info_string
    have hb1 : (m.ab.inq.length + 1) * 16 ≤ 140737488355328 := by omega
    have hb2 : m.ab.inq.length + 1 ≤ maxLen := by unfold maxLen; omega
    go_wp2_with (go_at_call 6; refine c1.mono ?_; rintro e w1 ⟨rfl, hw1⟩; obtain ⟨⟨p0, p1, p2⟩, ⟨q0, q1, q2, q3⟩, RR, rr1, rr2⟩ := Hfin.out w1 hw1; have HR1 := Lib.hid rr1; have HR2 := Lib.hid rr2; clear hw1 rr1 rr2)
    go_region_law (refine step_append_slo rfl _ _ 33 rfl i0 (.string ByteArray.empty) 16 Try.underlying33 hi hz0 hz1 hz2 rfl (by decide) ((HR1.out.alloc1 (.cells #[.string D] 9)).drew) rfl ⟨w1.heap.size, 0, none⟩ 1 1 [.string D] rfl rfl (by intro j u hj; match j, hj with | 0, hj => (simp at hj; subst hj; simp [Addr.add])) (by intro u hu; simp at hu; subst hu; rfl) hb1 hb2 ?_; intro ao2 cap2 w2 hw2; obtain ⟨⟨z2, z0, z1, zf⟩, z9⟩ := HR2.out w2 ao2 cap2 _ hw2; have Hz := Lib.hid z9; clear hw2 z9)
    all_goals
      go_wp2_with fail
      go_region
      all_goals
        go_wp2_with fail
        rw [fr_of 403 _ rfl]
        exact Hz.out _ ⟨rfl, rfl, rfl, rfl, rfl, rfl, rfl⟩ _ rfl
  all_goals
    have c1 := send_no hST j D (by rw [at?_nat hj']; simp [sendOk, *])
    have Hfin : Hid (∀ f w', Goes f a s l v0 v23 v24 v25 → w' = w → Kc (Fr 403 f) w') := fun f w' h1 h2 => hK.out f w' s l h1 (hfst w' h2) hsyn.more
    have hdl : D.toList.isEmpty = true → D.toList = [] := fun h => by simpa using h
    rw [hd] at hdl
    try (have hdl' := hdl rfl)
    clear hdl
    clear hST hfst hsyn hK hin hca hou hsh hre hcl hab
    simp only [es, er, ec] at h2 h3 h4
    generalize l.ms[j] = m at *
    conv => arg 2; whnf
    unfold ptr
    go_wp2_with (go_at_call 6; refine c1.mono ?_; rintro e w' ⟨rfl, rfl⟩)
    rw [fr_of 403 _ rfl]
    exact Hfin.out _ _ ⟨rfl, rfl, rfl, rfl, rfl, rfl, rfl⟩ rfl
end Go.Proofs.Ytdgohegjpehofaa
