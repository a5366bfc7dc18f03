/- NetRuns: the arm Read at which there is such a connection. -/
import Derived.Test.YtdgohegjpehofaaNetLawE
namespace Go.Proofs.Ytdgohegjpehofaa
open Go.RowKit

set_option maxRecDepth 100000 in
set_option maxHeartbeats 8000000 in
theorem arm_read_yes : Arm 5 XYes := by
  intro W a k s l cb K I D x v0 v23 v24 v25 t w Kc Q H ⟨j, hj, hI, hx⟩ hK
  obtain ⟨f, ef, ⟨g0, g3, g4, g5, g23, g24, g25⟩, g7, g8, g52⟩ := H.frame
  obtain ⟨-, -, -, -, -, hST, hsyn, hD, hk⟩ := H
  subst hI hx
  have hj' : j < s.conns.length := by rw [hsyn.len]; exact hj
  have hab := hsyn.at hj' hj
  have hlt := hsyn.light' hj'
  have hin : s.conns[j].inq = l.ms[j].ab.inq := congrArg Ab.inq hab
  obtain ⟨e0, e1, e2⟩ := call_cells hST
  obtain ⟨h0, h1, h2, h3, h4, h5, h6⟩ := (both hST hj).mcn_cells
  have hfst : ∀ w', w' = w → St W (net a s * (law l * 1)) w' := by rintro _ rfl; exact hST.leave
  rw [ef, fr403, g0, g3, g4, g5, g7, g8, g23, g24, g25, g52]
  clear g0 g3 g4 g5 g7 g8 g23 g24 g25 g52 ef
  cases hq : l.ms[j].ab.inq with
  | nil =>
    have c1 := read_no hST j (by rw [at?_nat hj']; simp [readOk, hin, hq])
    have Hfin : Hid (∀ f w', Goes f a s l v0 v23 v24 v25 → w' = w → Kc (Fr 403 f) w') := fun f w' h1 h2 => hK.out f w' s l h1 (hfst w' h2) hsyn.more
    rw [hq, List.length_nil] at h0
    clear hST hfst hsyn hK hin hab hq
    generalize l.ms[j] = m at *
    conv => arg 2; whnf
    unfold ptr
    go_wp2_with (go_at_call 10; refine c1.mono ?_; rintro e w' ⟨rfl, rfl⟩)
    rw [fr_of 403 _ rfl]
    exact Hfin.out _ _ ⟨rfl, rfl, rfl, rfl, rfl, rfl, rfl⟩ rfl
  | cons y r =>
    have c1 := read_ok hST j hj' y r (by rw [hin, hq])
    have hms := (both hST hj).mcn_split
    have hle := hms.slo_len
    obtain ⟨g, off, hao, -⟩ := hms.slo_cell (by rw [hq]; simp)
    have hfin : ∀ f w1, St W (net a (s.put j { s.conns[j] with ao := cutAt s.conns[j].ao s.conns[j].cap 1 1, cap := s.conns[j].cap - 1, inq := r }) * (law l * callB cb K (j : Int) D)) w1 →
      (w1.cell? ⟨cb, 1, none⟩ = some (.int .i64 (j : Int)) ∧ w1.cell? ⟨l.ms[j].blk, 0, none⟩ = some (.slice (some ⟨g, off, none⟩) (r.length + 1) l.ms[j].cap) ∧ w1.cell? ⟨g, off, none⟩ = some (.string y) ∧ (∀ i, w1.frozen? ⟨l.ms[j].blk, i, none⟩ = false)) ∧
      (Goes f a s l v0 v23 v24 v25 → ∀ w2 ao', ao' = cutAt l.ms[j].ao l.ms[j].cap 1 1 → w2 = w1.setCell ⟨l.ms[j].blk, 0, none⟩ (.slice ao' r.length (l.ms[j].cap - 1)) → Kc (Fr 403 f) w2) := by
      intro f w1 hw1
      have hb := both hw1 hj
      have hcs := hb.mcn_cells
      obtain ⟨g', off', hao', hcell⟩ := hb.mcn_split.slo_cell (by rw [hq]; simp)
      rw [hao] at hao'
      cases hao'
      have hx0 := hcell 0 (by rw [hq]; simp)
      rw [hq] at hx0
      refine ⟨⟨(call_cells hw1).2.1, ?_, by simpa using hx0, hcs.2.2.2.2.2.2⟩, ?_⟩
      · rw [hcs.1, hq, hao]; rfl
      · intro hg w2 ao' hao2 hw2
        subst hao2 hw2
        have h2 := hb.mcn_split
        rw [hq] at h2
        have h4 := slo_tail (x := .string y) (xs := r.map .string) (n := r.length) h2
        refine fin_put hK hsyn hj (c := { s.conns[j] with ao := cutAt s.conns[j].ao s.conns[j].cap 1 1, cap := s.conns[j].cap - 1, inq := r })
          (m := { l.ms[j] with ao := cutAt l.ms[j].ao l.ms[j].cap 1 1, cap := l.ms[j].cap - 1, ab := { l.ms[j].ab with inq := r } }) rfl ?_ ?_ hg (h4.mcn_inq rfl)
        · have := hab; simp only [Cn.ab] at this ⊢; rw [← this]
        · rw [hin, hq] at hlt; simp only [List.length_cons] at hlt ⊢; omega
    have Hfin := Lib.hid hfin
    rw [hq] at hle
    simp only [List.length_cons] at hle
    have hle2 := hle.2.1
    have Hao := Lib.hid hao
    clear hfin hfst hsyn hK hin hab hq hST hms hle hao h0
    generalize l.ms[j] = m at *
    by_cases hcap : m.cap = 1
    · obtain rfl : r = [] := List.eq_nil_of_length_eq_zero (by omega)
      have Hcap := Lib.hid hcap
      clear hcap
      conv => arg 2; whnf
      unfold ptr
      go_wp2_with (go_at_call 10; refine c1.mono ?_; rintro e w1 ⟨rfl, hw1⟩; obtain ⟨⟨p1, p2, p3, p4⟩, -⟩ := Hfin.out f w1 hw1; simp only [List.length_nil, Nat.zero_add] at p2; rw [Hcap.out] at p2; have Hw1 := Lib.hid hw1; clear hw1)
      rw [fr_of 403 _ rfl]
      exact (Hfin.out _ _ Hw1.out).2 ⟨rfl, rfl, rfl, rfl, rfl, rfl, rfl⟩ _ (some ⟨g, off, none⟩) (by rw [Hao.out, Hcap.out]; rfl) (by rw [Hcap.out]; rfl)
    · conv => arg 2; whnf
      unfold ptr
      go_wp2_with (go_at_call 10; refine c1.mono ?_; rintro e w1 ⟨rfl, hw1⟩; obtain ⟨⟨p1, p2, p3, p4⟩, -⟩ := Hfin.out f w1 hw1; have Hw1 := Lib.hid hw1; clear hw1)
      rw [fr_of 403 _ rfl]
      exact (Hfin.out _ _ Hw1.out).2 ⟨rfl, rfl, rfl, rfl, rfl, rfl, rfl⟩ _ (some ⟨g, off + 1, none⟩) (by rw [Hao.out]; simp [cutAt, hcap, Addr.add]) rfl
end Go.Proofs.Ytdgohegjpehofaa
