/- NetRuns: the arm Accept. -/
import Derived.Test.YtdgohegjpehofaaNetLawE
namespace Go.Proofs.Ytdgohegjpehofaa
open Go.RowKit

section
variable {W w : World} {a k : Nat} {s : Ns} {l : Lw}

theorem St.law_dials {R : SP} (h : St W (law l * R) w) :
    St W (slo 3 1 l.dao l.dials.length l.dcap (l.dials.map fun d => .int .i64 (d : Nat)) * (slo 31 1 l.ao l.ms.length l.cap (l.ms.map fun c => ptr c.blk) * (SP.all mcn l.ms * R))) w := by
  unfold law at h
  exact h.eq (by ac_rfl)

theorem St.law_dials_back {R : SP} {dao : Option Addr} {n dcap : Nat} {q : List Nat} (hn : n = q.length)
    (h : St W (slo 3 1 dao n dcap (q.map fun d => .int .i64 (d : Nat)) * (slo 31 1 l.ao l.ms.length l.cap (l.ms.map fun c => ptr c.blk) * (SP.all mcn l.ms * R))) w) :
    St W (law { l with dao := dao, dcap := dcap, dials := q } * R) w := by
  subst hn
  unfold law
  exact h.eq (by ac_rfl)
end

set_option maxRecDepth 100000 in
set_option maxHeartbeats 8000000 in
theorem arm_accept : Arm 4 (fun _ _ _ => True) := by
  intro W a k s l cb K I D x v0 v23 v24 v25 t w Kc Q H _ hK
  obtain ⟨f, ef, ⟨g0, g3, g4, g5, g23, g24, g25⟩, g7, g8, g52⟩ := H.frame
  obtain ⟨-, -, -, -, -, hST, hsyn, hD, hk⟩ := H
  have hfst : ∀ w', w' = w → St W (net a s * (law l * 1)) w' := by rintro _ rfl; exact hST.leave
  have hds := hsyn.dials
  rw [ef, fr403, g0, g3, g4, g5, g7, g8, g23, g24, g25, g52]
  clear g0 g3 g4 g5 g7 g8 g23 g24 g25 g52 ef
  cases hq : l.dials with
  | nil =>
    have c1 := accept_no hST (by rw [hds, hq])
    have Hfin : Hid (∀ f w', Goes f a s l v0 v23 v24 v25 → w' = w → Kc (Fr 403 f) w') := fun f w' h1 h2 => hK.out f w' s l h1 (hfst w' h2) hsyn.more
    have Hq := Lib.hid hq
    clear hST hfst hsyn hK hq hds
    rw [List.length_nil]
    conv => arg 2; whnf
    unfold ptr
    go_wp2_with (go_at_call 9; refine c1.mono ?_; rintro e w' ⟨rfl, rfl⟩)
    rw [fr_of 403 _ rfl]
    exact Hfin.out _ _ ⟨rfl, rfl, rfl, by rw [Hq.out]; rfl, rfl, rfl, rfl⟩ rfl
  | cons d r =>
    have hds' : s.dials = d :: r := by rw [hds, hq]
    have hdk : d < s.conns.length := hsyn.known d (by rw [hds']; simp)
    have c1 := accept_ok hST d r hds' hdk
    have hdl := hST.front.law_dials
    have hle := hdl.slo_len
    obtain ⟨g, off, hao, -⟩ := hdl.slo_cell (by rw [hq]; simp)
    have hfin : ∀ f w1, St W (net a { s.put d { s.conns[d] with taken := true } with dao := cutAt s.dao s.dcap 1 1, dcap := s.dcap - 1, dials := r } * (law l * callB cb K I D)) w1 →
      w1.cell? ⟨g, off, none⟩ = some (.int .i64 d) ∧
      (∀ ao', ao' = cutAt l.dao l.dcap 1 1 → (f 0 = v0 ∧ f 3 = ptr a ∧ f 4 = .slice l.ao l.ms.length l.cap ∧ f 5 = .slice ao' r.length (l.dcap - 1) ∧ f 23 = v23 ∧ f 24 = v24 ∧ f 25 = v25) → Kc (Fr 403 f) w1) := by
      intro f w1 hw1
      have hb := hw1.front.law_dials
      obtain ⟨g', off', hao', hcell⟩ := hb.slo_cell (by rw [hq]; simp)
      rw [hao] at hao'
      cases hao'
      have hx0 := hcell 0 (by rw [hq]; simp)
      rw [hq] at hx0
      refine ⟨by simpa using hx0, ?_⟩
      rintro ao' rfl ⟨k0, k3, k4, k5, k23, k24, k25⟩
      rw [hq] at hb
      have h4 := (slo_tail (x := .int .i64 d) (xs := r.map fun d => .int .i64 (d : Nat)) (n := r.length) hb).law_dials_back rfl
      refine hK.out f w1 { s.put d { s.conns[d] with taken := true } with dao := cutAt s.dao s.dcap 1 1, dcap := s.dcap - 1, dials := r } { l with dao := cutAt l.dao l.dcap 1 1, dcap := l.dcap - 1, dials := r } ⟨k0, k3, k4, k5, k23, k24, k25⟩ h4.front.leave ?_
      have hm := hsyn.more
      have hlight := hm.light
      refine ⟨?_, rfl, ?_, ?_, ?_, ?_⟩
      · show (s.conns.set d _).map Cn.ab = _
        rw [List.map_set]
        rw [← hsyn.ab]
        apply List.ext_getElem (by simp)
        intro i h1 h2
        by_cases e : d = i
        · subst e; simp [Cn.ab]
        · simp [e]
      · intro z hz
        show z < (s.conns.set d _).length
        rw [List.length_set]
        exact hsyn.known z (by rw [hds']; exact List.mem_cons_of_mem _ hz)
      · show (s.conns.set d _).length ≤ _
        rw [List.length_set]; exact hm.conns
      · have := hm.few; rw [hds'] at this; simp at this; show r.length ≤ _; omega
      · intro c hc
        rcases List.mem_or_eq_of_mem_set hc with hc | rfl
        · exact hlight c hc
        · exact hlight s.conns[d] (List.getElem_mem hdk)
    have Hfin := Lib.hid hfin
    rw [hq] at hle
    simp only [List.length_cons] at hle ⊢
    have hle2 := hle.2.1
    have hdmax : d ≤ 9223372036854775807 := by have := hsyn.conns; omega
    have Hao := Lib.hid hao
    rw [hao]
    clear hfin hfst hsyn hK hq hST hdl hle hao hds hds'
    by_cases hcap : l.dcap = 1
    · obtain rfl : r = [] := List.eq_nil_of_length_eq_zero (by omega)
      have Hcap := Lib.hid hcap
      rw [hcap]
      clear hcap
      simp only [List.length_nil, Nat.zero_add]
      conv => arg 2; whnf
      unfold ptr
      go_wp2_with (go_at_call 9; refine c1.mono ?_; rintro e w1 ⟨rfl, hw1⟩; obtain ⟨p1, -⟩ := Hfin.out f w1 hw1; have Hw1 := Lib.hid hw1; clear hw1)
      rw [fr_of 403 _ rfl]
      exact (Hfin.out _ _ Hw1.out).2 (some ⟨g, off, none⟩) (by rw [Hao.out, Hcap.out]; rfl) ⟨rfl, rfl, rfl, by rw [Hcap.out]; rfl, rfl, rfl, rfl⟩
    · conv => arg 2; whnf
      unfold ptr
      go_wp2_with (go_at_call 9; refine c1.mono ?_; rintro e w1 ⟨rfl, hw1⟩; obtain ⟨p1, -⟩ := Hfin.out f w1 hw1; have Hw1 := Lib.hid hw1; clear hw1)
      rw [fr_of 403 _ rfl]
      exact (Hfin.out _ _ Hw1.out).2 (some ⟨g, off + 1, none⟩) (by rw [Hao.out]; simp [cutAt, hcap, Addr.add]) ⟨rfl, rfl, rfl, rfl, rfl, rfl, rfl⟩
end Go.Proofs.Ytdgohegjpehofaa
