/- NetRuns: the arms Shut, Reset, Close and Write at which there is such a connection. -/
import Derived.Test.YtdgohegjpehofaaNetLawE
import Derived.Deep.RegionLaw
import Derived.BigRegion
namespace Go.Proofs.Ytdgohegjpehofaa
open Go.RowKit

set_option maxRecDepth 100000 in
set_option maxHeartbeats 8000000 in
theorem arm_shut_yes : Arm 2 XYes := by
  intro W a k s l cb K I D x v0 v23 v24 v25 t w Kc Q H ⟨j, hj, hI, hx⟩ hK
  obtain ⟨f, ef, ⟨g0, g3, g4, g5, g23, g24, g25⟩, g7, g8, g52⟩ := H.frame
  obtain ⟨-, -, -, -, -, hST, hsyn, hD, hk⟩ := H
  subst hI hx
  have hj' : j < s.conns.length := by rw [hsyn.len]; exact hj
  have hab := hsyn.at hj' hj
  have hlt := hsyn.light' hj'
  have hsh : s.conns[j].shut = l.ms[j].ab.shut := congrArg Ab.shut hab
  have hre : s.conns[j].reset = l.ms[j].ab.reset := congrArg Ab.reset hab
  have hcl : s.conns[j].closed = l.ms[j].ab.closed := congrArg Ab.closed hab
  have hin : s.conns[j].inq = l.ms[j].ab.inq := congrArg Ab.inq hab
  have hca : s.conns[j].came = l.ms[j].ab.came := congrArg Ab.came hab
  have hou : s.conns[j].out = l.ms[j].ab.out := congrArg Ab.out hab
  obtain ⟨e0, e1, e2⟩ := call_cells hST
  obtain ⟨h0, h1, h2, h3, h4, h5, h6⟩ := (both hST hj).mcn_cells
  have hfst : ∀ w', w' = w → St W (net a s * (law l * 1)) w' := by rintro _ rfl; exact hST.leave
  rw [ef, fr403, g0, g3, g4, g5, g7, g8, g23, g24, g25, g52]
  clear g0 g3 g4 g5 g7 g8 g23 g24 g25 g52 ef
  cases es : l.ms[j].ab.shut <;> cases er : l.ms[j].ab.reset <;> cases ec : l.ms[j].ab.closed
  all_goals first
    | (have c1 := shut_ok hST j hj' (by simp [shutOk, *])
       have hfin : ∀ f w1, St W (net a (s.put j { s.conns[j] with shut := true }) * (law l * callB cb K (j : Int) D)) w1 →
         (w1.cell? ⟨cb, 0, none⟩ = some (.int .i64 K) ∧ w1.cell? ⟨cb, 1, none⟩ = some (.int .i64 (j : Int)) ∧ w1.cell? ⟨cb, 2, none⟩ = some (.string D)) ∧
         (w1.cell? ⟨l.ms[j].blk, 0, none⟩ = some (.slice l.ms[j].ao l.ms[j].ab.inq.length l.ms[j].cap) ∧ w1.cell? ⟨l.ms[j].blk, 1, none⟩ = some (.int .i64 l.ms[j].ab.came) ∧ w1.cell? ⟨l.ms[j].blk, 2, none⟩ = some (.bool l.ms[j].ab.shut) ∧ w1.cell? ⟨l.ms[j].blk, 3, none⟩ = some (.bool l.ms[j].ab.reset) ∧
          w1.cell? ⟨l.ms[j].blk, 4, none⟩ = some (.bool l.ms[j].ab.closed) ∧ w1.cell? ⟨l.ms[j].blk, 5, none⟩ = some (.string l.ms[j].ab.out) ∧ (∀ i, w1.frozen? ⟨l.ms[j].blk, i, none⟩ = false)) ∧
         (Goes f a s l v0 v23 v24 v25 → ∀ w2, w2 = w1.setCell ⟨l.ms[j].blk, 2, none⟩ (.bool true) → Kc (Fr 403 f) w2) := by
         intro f w1 hw1
         refine ⟨call_cells hw1, (both hw1 hj).mcn_cells, fun hg w2 hw2 => ?_⟩
         subst hw2
         exact fin_put hK hsyn hj (c := { s.conns[j] with shut := true }) (m := { l.ms[j] with ab := { l.ms[j].ab with shut := true } }) rfl (by simp [Cn.ab, *]) (by simp; omega) hg ((both hw1 hj).mcn_shut true)
       have Hfin := Lib.hid hfin
       have hsum : l.ms[j].ab.out.size + D.size ≤ 9223372036854775807 := by rw [← hou]; omega
       clear hfin hfst hsyn hK hin hca hou hsh hre hcl hab
       simp only [es, er, ec] at h0 h1 h2 h3 h4 h5
       generalize l.ms[j] = m at *
       conv => arg 2; whnf
       unfold ptr
       go_wp2_with (go_at_call 7; refine c1.mono ?_; rintro e w1 ⟨rfl, hw1⟩; obtain ⟨⟨p0, p1, p2⟩, ⟨q0, q1, q2, q3, q4, q5, q6⟩, -⟩ := Hfin.out f w1 hw1; have Hw1 := Lib.hid hw1; clear hw1)
       rw [fr_of 403 _ rfl]
       exact (Hfin.out _ _ Hw1.out).2.2 ⟨rfl, rfl, rfl, rfl, rfl, rfl, rfl⟩ _ rfl)
    | (have c1 := shut_no hST j (by rw [at?_nat hj']; simp [shutOk, *])
       have Hfin : Hid (∀ f w', Goes f a s l v0 v23 v24 v25 → w' = w → Kc (Fr 403 f) w') := fun f w' h1 h2 => hK.out f w' s l h1 (hfst w' h2) hsyn.more
       clear hST hfst hsyn hK hin hca hou hsh hre hcl hab
       simp only [es, er, ec] at h0 h1 h2 h3 h4 h5
       generalize l.ms[j] = m at *
       conv => arg 2; whnf
       unfold ptr
       go_wp2_with (go_at_call 7; refine c1.mono ?_; rintro e w' ⟨rfl, rfl⟩)
       rw [fr_of 403 _ rfl]
       exact Hfin.out _ _ ⟨rfl, rfl, rfl, rfl, rfl, rfl, rfl⟩ rfl)

set_option maxRecDepth 100000 in
set_option maxHeartbeats 8000000 in
theorem arm_reset_yes : Arm 3 XYes := by
  intro W a k s l cb K I D x v0 v23 v24 v25 t w Kc Q H ⟨j, hj, hI, hx⟩ hK
  obtain ⟨f, ef, ⟨g0, g3, g4, g5, g23, g24, g25⟩, g7, g8, g52⟩ := H.frame
  obtain ⟨-, -, -, -, -, hST, hsyn, hD, hk⟩ := H
  subst hI hx
  have hj' : j < s.conns.length := by rw [hsyn.len]; exact hj
  have hab := hsyn.at hj' hj
  have hlt := hsyn.light' hj'
  have hsh : s.conns[j].shut = l.ms[j].ab.shut := congrArg Ab.shut hab
  have hre : s.conns[j].reset = l.ms[j].ab.reset := congrArg Ab.reset hab
  have hcl : s.conns[j].closed = l.ms[j].ab.closed := congrArg Ab.closed hab
  have hin : s.conns[j].inq = l.ms[j].ab.inq := congrArg Ab.inq hab
  have hca : s.conns[j].came = l.ms[j].ab.came := congrArg Ab.came hab
  have hou : s.conns[j].out = l.ms[j].ab.out := congrArg Ab.out hab
  obtain ⟨e0, e1, e2⟩ := call_cells hST
  obtain ⟨h0, h1, h2, h3, h4, h5, h6⟩ := (both hST hj).mcn_cells
  have hfst : ∀ w', w' = w → St W (net a s * (law l * 1)) w' := by rintro _ rfl; exact hST.leave
  rw [ef, fr403, g0, g3, g4, g5, g7, g8, g23, g24, g25, g52]
  clear g0 g3 g4 g5 g7 g8 g23 g24 g25 g52 ef
  cases er : l.ms[j].ab.reset <;> cases ec : l.ms[j].ab.closed
  all_goals first
    | (have c1 := reset_ok hST j hj' (by simp [resetOk, *])
       have hfin : ∀ f w1, St W (net a (s.put j { s.conns[j] with reset := true, ao := none, cap := 0, inq := [] }) * (law l * callB cb K (j : Int) D)) w1 →
         (w1.cell? ⟨cb, 0, none⟩ = some (.int .i64 K) ∧ w1.cell? ⟨cb, 1, none⟩ = some (.int .i64 (j : Int)) ∧ w1.cell? ⟨cb, 2, none⟩ = some (.string D)) ∧
         (w1.cell? ⟨l.ms[j].blk, 0, none⟩ = some (.slice l.ms[j].ao l.ms[j].ab.inq.length l.ms[j].cap) ∧ w1.cell? ⟨l.ms[j].blk, 1, none⟩ = some (.int .i64 l.ms[j].ab.came) ∧ w1.cell? ⟨l.ms[j].blk, 2, none⟩ = some (.bool l.ms[j].ab.shut) ∧ w1.cell? ⟨l.ms[j].blk, 3, none⟩ = some (.bool l.ms[j].ab.reset) ∧
          w1.cell? ⟨l.ms[j].blk, 4, none⟩ = some (.bool l.ms[j].ab.closed) ∧ w1.cell? ⟨l.ms[j].blk, 5, none⟩ = some (.string l.ms[j].ab.out) ∧ (∀ i, w1.frozen? ⟨l.ms[j].blk, i, none⟩ = false)) ∧
         (Goes f a s l v0 v23 v24 v25 → ∀ w2, w2 = (w1.setCell ⟨l.ms[j].blk, 3, none⟩ (.bool true)).setCell ⟨l.ms[j].blk, 0, none⟩ (.slice none 0 0) → Kc (Fr 403 f) w2) := by
         intro f w1 hw1
         refine ⟨call_cells hw1, (both hw1 hj).mcn_cells, fun hg w2 hw2 => ?_⟩
         subst hw2
         exact fin_put hK hsyn hj (c := { s.conns[j] with reset := true, ao := none, cap := 0, inq := [] }) (m := { l.ms[j] with ao := none, cap := 0, ab := { l.ms[j].ab with reset := true, inq := [] } }) rfl (by simp [Cn.ab, *]) (by simp; omega) hg (((both hw1 hj).mcn_reset true).mcn_clear)
       have Hfin := Lib.hid hfin
       have hsum : l.ms[j].ab.out.size + D.size ≤ 9223372036854775807 := by rw [← hou]; omega
       clear hfin hfst hsyn hK hin hca hou hsh hre hcl hab
       simp only [er, ec] at h0 h1 h2 h3 h4 h5
       generalize l.ms[j] = m at *
       conv => arg 2; whnf
       unfold ptr
       go_wp2_with (go_at_call 8; refine c1.mono ?_; rintro e w1 ⟨rfl, hw1⟩; obtain ⟨⟨p0, p1, p2⟩, ⟨q0, q1, q2, q3, q4, q5, q6⟩, -⟩ := Hfin.out f w1 hw1; have Hw1 := Lib.hid hw1; clear hw1)
       rw [fr_of 403 _ rfl]
       exact (Hfin.out _ _ Hw1.out).2.2 ⟨rfl, rfl, rfl, rfl, rfl, rfl, rfl⟩ _ rfl)
    | (have c1 := reset_no hST j (by rw [at?_nat hj']; simp [resetOk, *])
       have Hfin : Hid (∀ f w', Goes f a s l v0 v23 v24 v25 → w' = w → Kc (Fr 403 f) w') := fun f w' h1 h2 => hK.out f w' s l h1 (hfst w' h2) hsyn.more
       clear hST hfst hsyn hK hin hca hou hsh hre hcl hab
       simp only [er, ec] at h0 h1 h2 h3 h4 h5
       generalize l.ms[j] = m at *
       conv => arg 2; whnf
       unfold ptr
       go_wp2_with (go_at_call 8; refine c1.mono ?_; rintro e w' ⟨rfl, rfl⟩)
       rw [fr_of 403 _ rfl]
       exact Hfin.out _ _ ⟨rfl, rfl, rfl, rfl, rfl, rfl, rfl⟩ rfl)

set_option maxRecDepth 100000 in
set_option maxHeartbeats 8000000 in
theorem arm_close_yes : Arm 7 XYes := by
  intro W a k s l cb K I D x v0 v23 v24 v25 t w Kc Q H ⟨j, hj, hI, hx⟩ hK
  obtain ⟨f, ef, ⟨g0, g3, g4, g5, g23, g24, g25⟩, g7, g8, g52⟩ := H.frame
  obtain ⟨-, -, -, -, -, hST, hsyn, hD, hk⟩ := H
  subst hI hx
  have hj' : j < s.conns.length := by rw [hsyn.len]; exact hj
  have hab := hsyn.at hj' hj
  have hlt := hsyn.light' hj'
  have hsh : s.conns[j].shut = l.ms[j].ab.shut := congrArg Ab.shut hab
  have hre : s.conns[j].reset = l.ms[j].ab.reset := congrArg Ab.reset hab
  have hcl : s.conns[j].closed = l.ms[j].ab.closed := congrArg Ab.closed hab
  have hin : s.conns[j].inq = l.ms[j].ab.inq := congrArg Ab.inq hab
  have hca : s.conns[j].came = l.ms[j].ab.came := congrArg Ab.came hab
  have hou : s.conns[j].out = l.ms[j].ab.out := congrArg Ab.out hab
  obtain ⟨e0, e1, e2⟩ := call_cells hST
  obtain ⟨h0, h1, h2, h3, h4, h5, h6⟩ := (both hST hj).mcn_cells
  have hfst : ∀ w', w' = w → St W (net a s * (law l * 1)) w' := by rintro _ rfl; exact hST.leave
  rw [ef, fr403, g0, g3, g4, g5, g7, g8, g23, g24, g25, g52]
  clear g0 g3 g4 g5 g7 g8 g23 g24 g25 g52 ef
  skip
  all_goals first
    | (have c1 := close_ok hST j hj' (by simp [thereB, *])
       have hfin : ∀ f w1, St W (net a (s.put j { s.conns[j] with closed := true }) * (law l * callB cb K (j : Int) D)) w1 →
         (w1.cell? ⟨cb, 0, none⟩ = some (.int .i64 K) ∧ w1.cell? ⟨cb, 1, none⟩ = some (.int .i64 (j : Int)) ∧ w1.cell? ⟨cb, 2, none⟩ = some (.string D)) ∧
         (w1.cell? ⟨l.ms[j].blk, 0, none⟩ = some (.slice l.ms[j].ao l.ms[j].ab.inq.length l.ms[j].cap) ∧ w1.cell? ⟨l.ms[j].blk, 1, none⟩ = some (.int .i64 l.ms[j].ab.came) ∧ w1.cell? ⟨l.ms[j].blk, 2, none⟩ = some (.bool l.ms[j].ab.shut) ∧ w1.cell? ⟨l.ms[j].blk, 3, none⟩ = some (.bool l.ms[j].ab.reset) ∧
          w1.cell? ⟨l.ms[j].blk, 4, none⟩ = some (.bool l.ms[j].ab.closed) ∧ w1.cell? ⟨l.ms[j].blk, 5, none⟩ = some (.string l.ms[j].ab.out) ∧ (∀ i, w1.frozen? ⟨l.ms[j].blk, i, none⟩ = false)) ∧
         (Goes f a s l v0 v23 v24 v25 → ∀ w2, w2 = w1.setCell ⟨l.ms[j].blk, 4, none⟩ (.bool true) → Kc (Fr 403 f) w2) := by
         intro f w1 hw1
         refine ⟨call_cells hw1, (both hw1 hj).mcn_cells, fun hg w2 hw2 => ?_⟩
         subst hw2
         exact fin_put hK hsyn hj (c := { s.conns[j] with closed := true }) (m := { l.ms[j] with ab := { l.ms[j].ab with closed := true } }) rfl (by simp [Cn.ab, *]) (by simp; omega) hg ((both hw1 hj).mcn_closed true)
       have Hfin := Lib.hid hfin
       have hsum : l.ms[j].ab.out.size + D.size ≤ 9223372036854775807 := by rw [← hou]; omega
       clear hfin hfst hsyn hK hin hca hou hsh hre hcl hab
       generalize l.ms[j] = m at *
       conv => arg 2; whnf
       unfold ptr
       go_wp2_with (go_at_call 12; refine c1.mono ?_; rintro e w1 ⟨rfl, hw1⟩; obtain ⟨⟨p0, p1, p2⟩, ⟨q0, q1, q2, q3, q4, q5, q6⟩, -⟩ := Hfin.out f w1 hw1; have Hw1 := Lib.hid hw1; clear hw1)
       rw [fr_of 403 _ rfl]
       exact (Hfin.out _ _ Hw1.out).2.2 ⟨rfl, rfl, rfl, rfl, rfl, rfl, rfl⟩ _ rfl)
    | (have c1 := close_no hST j (by rw [at?_nat hj']; simp [thereB, *])
       have Hfin : Hid (∀ f w', Goes f a s l v0 v23 v24 v25 → w' = w → Kc (Fr 403 f) w') := fun f w' h1 h2 => hK.out f w' s l h1 (hfst w' h2) hsyn.more
       clear hST hfst hsyn hK hin hca hou hsh hre hcl hab
       generalize l.ms[j] = m at *
       conv => arg 2; whnf
       unfold ptr
       go_wp2_with (go_at_call 12; refine c1.mono ?_; rintro e w' ⟨rfl, rfl⟩)
       rw [fr_of 403 _ rfl]
       exact Hfin.out _ _ ⟨rfl, rfl, rfl, rfl, rfl, rfl, rfl⟩ rfl)

set_option maxRecDepth 100000 in
set_option maxHeartbeats 8000000 in
theorem arm_write_yes : Arm 6 XYes := by
  intro W a k s l cb K I D x v0 v23 v24 v25 t w Kc Q H ⟨j, hj, hI, hx⟩ hK
  obtain ⟨f, ef, ⟨g0, g3, g4, g5, g23, g24, g25⟩, g7, g8, g52⟩ := H.frame
  obtain ⟨-, -, -, -, -, hST, hsyn, hD, hk⟩ := H
  subst hI hx
  have hj' : j < s.conns.length := by rw [hsyn.len]; exact hj
  have hab := hsyn.at hj' hj
  have hlt := hsyn.light' hj'
  have hsh : s.conns[j].shut = l.ms[j].ab.shut := congrArg Ab.shut hab
  have hre : s.conns[j].reset = l.ms[j].ab.reset := congrArg Ab.reset hab
  have hcl : s.conns[j].closed = l.ms[j].ab.closed := congrArg Ab.closed hab
  have hin : s.conns[j].inq = l.ms[j].ab.inq := congrArg Ab.inq hab
  have hca : s.conns[j].came = l.ms[j].ab.came := congrArg Ab.came hab
  have hou : s.conns[j].out = l.ms[j].ab.out := congrArg Ab.out hab
  obtain ⟨e0, e1, e2⟩ := call_cells hST
  obtain ⟨h0, h1, h2, h3, h4, h5, h6⟩ := (both hST hj).mcn_cells
  have hfst : ∀ w', w' = w → St W (net a s * (law l * 1)) w' := by rintro _ rfl; exact hST.leave
  rw [ef, fr403, g0, g3, g4, g5, g7, g8, g23, g24, g25, g52]
  clear g0 g3 g4 g5 g7 g8 g23 g24 g25 g52 ef
  cases er : l.ms[j].ab.reset <;> cases ec : l.ms[j].ab.closed
  all_goals first
    | (have c1 := write_ok hST j hj' D (by omega) (by simp [resetOk, *])
       have hfin : ∀ f w1, St W (net a (s.put j { s.conns[j] with out := s.conns[j].out ++ D }) * (law l * callB cb K (j : Int) D)) w1 →
         (w1.cell? ⟨cb, 0, none⟩ = some (.int .i64 K) ∧ w1.cell? ⟨cb, 1, none⟩ = some (.int .i64 (j : Int)) ∧ w1.cell? ⟨cb, 2, none⟩ = some (.string D)) ∧
         (w1.cell? ⟨l.ms[j].blk, 0, none⟩ = some (.slice l.ms[j].ao l.ms[j].ab.inq.length l.ms[j].cap) ∧ w1.cell? ⟨l.ms[j].blk, 1, none⟩ = some (.int .i64 l.ms[j].ab.came) ∧ w1.cell? ⟨l.ms[j].blk, 2, none⟩ = some (.bool l.ms[j].ab.shut) ∧ w1.cell? ⟨l.ms[j].blk, 3, none⟩ = some (.bool l.ms[j].ab.reset) ∧
          w1.cell? ⟨l.ms[j].blk, 4, none⟩ = some (.bool l.ms[j].ab.closed) ∧ w1.cell? ⟨l.ms[j].blk, 5, none⟩ = some (.string l.ms[j].ab.out) ∧ (∀ i, w1.frozen? ⟨l.ms[j].blk, i, none⟩ = false)) ∧
         (Goes f a s l v0 v23 v24 v25 → ∀ w2, w2 = (w1.setCell ⟨l.ms[j].blk, 5, none⟩ (.string (l.ms[j].ab.out ++ D))).drew → Kc (Fr 403 f) w2) := by
         intro f w1 hw1
         refine ⟨call_cells hw1, (both hw1 hj).mcn_cells, fun hg w2 hw2 => ?_⟩
         subst hw2
         exact fin_put hK hsyn hj (c := { s.conns[j] with out := s.conns[j].out ++ D }) (m := { l.ms[j] with ab := { l.ms[j].ab with out := l.ms[j].ab.out ++ D } }) rfl (by simp [Cn.ab, *]) (by simp [ByteArray.size_append]; omega) hg (((both hw1 hj).mcn_out _).drew)
       have Hfin := Lib.hid hfin
       have hsum : l.ms[j].ab.out.size + D.size ≤ 9223372036854775807 := by rw [← hou]; omega
       clear hfin hfst hsyn hK hin hca hou hsh hre hcl hab
       simp only [er, ec] at h0 h1 h2 h3 h4 h5
       generalize l.ms[j] = m at *
       conv => arg 2; whnf
       unfold ptr
       go_wp2_with (go_at_call 11; refine c1.mono ?_; rintro e w1 ⟨rfl, hw1⟩; obtain ⟨⟨p0, p1, p2⟩, ⟨q0, q1, q2, q3, q4, q5, q6⟩, -⟩ := Hfin.out f w1 hw1; have Hw1 := Lib.hid hw1; clear hw1)
       go_region
       go_wp2_with fail
       rw [fr_of 403 _ rfl]
       exact (Hfin.out _ _ Hw1.out).2.2 ⟨rfl, rfl, rfl, rfl, rfl, rfl, rfl⟩ _ rfl)
    | (have c1 := write_no hST j D (by rw [at?_nat hj']; simp [resetOk, *])
       have Hfin : Hid (∀ f w', Goes f a s l v0 v23 v24 v25 → w' = w → Kc (Fr 403 f) w') := fun f w' h1 h2 => hK.out f w' s l h1 (hfst w' h2) hsyn.more
       clear hST hfst hsyn hK hin hca hou hsh hre hcl hab
       simp only [er, ec] at h0 h1 h2 h3 h4 h5
       generalize l.ms[j] = m at *
       conv => arg 2; whnf
       unfold ptr
       go_wp2_with (go_at_call 11; refine c1.mono ?_; rintro e w' ⟨rfl, rfl⟩)
       rw [fr_of 403 _ rfl]
       exact Hfin.out _ _ ⟨rfl, rfl, rfl, rfl, rfl, rfl, rfl⟩ rfl)
end Go.Proofs.Ytdgohegjpehofaa
