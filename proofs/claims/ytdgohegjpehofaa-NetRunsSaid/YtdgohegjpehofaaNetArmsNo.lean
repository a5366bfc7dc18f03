/- NetRuns: the arms at which there is no such connection. -/
import Derived.Test.YtdgohegjpehofaaNetLawD
namespace Go.Proofs.Ytdgohegjpehofaa
open Go.RowKit

set_option maxRecDepth 100000 in
set_option maxHeartbeats 2000000 in
theorem arm_send_no : Arm 1 XNo := by
  intro W a k s l cb K I D x v0 v23 v24 v25 t w Kc Q H ⟨hx, hi⟩ hK
  obtain ⟨f, ef, ⟨g0, g3, g4, g5, g23, g24, g25⟩, g7, g8, g52⟩ := H.frame
  obtain ⟨-, -, -, -, -, hST, hsyn, hD, hk⟩ := H
  obtain ⟨e0, e1, e2⟩ := call_cells hST
  have c1 := send_no hST I D (by rw [at?_no hsyn hi]; rfl)
  have Hfin : Hid (∀ f w', Goes f a s l v0 v23 v24 v25 → w' = w → Kc (Fr 403 f) w') := fun f w' h1 h2 => hK.out f w' s l h1 (h2 ▸ hST.leave) hsyn.more
  subst hx
  clear hST hsyn hi hK
  rw [ef, fr403, g0, g3, g4, g5, g7, g8, g23, g24, g25, g52]
  clear g0 g3 g4 g5 g7 g8 g23 g24 g25 g52 ef
  conv => arg 2; whnf
  unfold ptr
  go_wp2_with (go_at_call 6; refine c1.mono ?_; rintro e w' ⟨rfl, rfl⟩)
  rw [fr_of 403 _ rfl]
  exact Hfin.out _ _ ⟨rfl, rfl, rfl, rfl, rfl, rfl, rfl⟩ rfl

set_option maxRecDepth 100000 in
set_option maxHeartbeats 2000000 in
theorem arm_shut_no : Arm 2 XNo := by
  intro W a k s l cb K I D x v0 v23 v24 v25 t w Kc Q H ⟨hx, hi⟩ hK
  obtain ⟨f, ef, ⟨g0, g3, g4, g5, g23, g24, g25⟩, g7, g8, g52⟩ := H.frame
  obtain ⟨-, -, -, -, -, hST, hsyn, hD, hk⟩ := H
  obtain ⟨e0, e1, e2⟩ := call_cells hST
  have c1 := shut_no hST I (by rw [at?_no hsyn hi]; rfl)
  have Hfin : Hid (∀ f w', Goes f a s l v0 v23 v24 v25 → w' = w → Kc (Fr 403 f) w') := fun f w' h1 h2 => hK.out f w' s l h1 (h2 ▸ hST.leave) hsyn.more
  subst hx
  clear hST hsyn hi hK
  rw [ef, fr403, g0, g3, g4, g5, g7, g8, g23, g24, g25, g52]
  clear g0 g3 g4 g5 g7 g8 g23 g24 g25 g52 ef
  conv => arg 2; whnf
  unfold ptr
  go_wp2_with (go_at_call 7; refine c1.mono ?_; rintro e w' ⟨rfl, rfl⟩)
  rw [fr_of 403 _ rfl]
  exact Hfin.out _ _ ⟨rfl, rfl, rfl, rfl, rfl, rfl, rfl⟩ rfl

set_option maxRecDepth 100000 in
set_option maxHeartbeats 2000000 in
theorem arm_reset_no : Arm 3 XNo := by
  intro W a k s l cb K I D x v0 v23 v24 v25 t w Kc Q H ⟨hx, hi⟩ hK
  obtain ⟨f, ef, ⟨g0, g3, g4, g5, g23, g24, g25⟩, g7, g8, g52⟩ := H.frame
  obtain ⟨-, -, -, -, -, hST, hsyn, hD, hk⟩ := H
  obtain ⟨e0, e1, e2⟩ := call_cells hST
  have c1 := reset_no hST I (by rw [at?_no hsyn hi]; rfl)
  have Hfin : Hid (∀ f w', Goes f a s l v0 v23 v24 v25 → w' = w → Kc (Fr 403 f) w') := fun f w' h1 h2 => hK.out f w' s l h1 (h2 ▸ hST.leave) hsyn.more
  subst hx
  clear hST hsyn hi hK
  rw [ef, fr403, g0, g3, g4, g5, g7, g8, g23, g24, g25, g52]
  clear g0 g3 g4 g5 g7 g8 g23 g24 g25 g52 ef
  conv => arg 2; whnf
  unfold ptr
  go_wp2_with (go_at_call 8; refine c1.mono ?_; rintro e w' ⟨rfl, rfl⟩)
  rw [fr_of 403 _ rfl]
  exact Hfin.out _ _ ⟨rfl, rfl, rfl, rfl, rfl, rfl, rfl⟩ rfl

set_option maxRecDepth 100000 in
set_option maxHeartbeats 2000000 in
theorem arm_read_no : Arm 5 XNo := by
  intro W a k s l cb K I D x v0 v23 v24 v25 t w Kc Q H ⟨hx, hi⟩ hK
  obtain ⟨f, ef, ⟨g0, g3, g4, g5, g23, g24, g25⟩, g7, g8, g52⟩ := H.frame
  obtain ⟨-, -, -, -, -, hST, hsyn, hD, hk⟩ := H
  obtain ⟨e0, e1, e2⟩ := call_cells hST
  have c1 := read_no hST I (by rw [at?_no hsyn hi]; rfl)
  have Hfin : Hid (∀ f w', Goes f a s l v0 v23 v24 v25 → w' = w → Kc (Fr 403 f) w') := fun f w' h1 h2 => hK.out f w' s l h1 (h2 ▸ hST.leave) hsyn.more
  subst hx
  clear hST hsyn hi hK
  rw [ef, fr403, g0, g3, g4, g5, g7, g8, g23, g24, g25, g52]
  clear g0 g3 g4 g5 g7 g8 g23 g24 g25 g52 ef
  conv => arg 2; whnf
  unfold ptr
  go_wp2_with (go_at_call 10; refine c1.mono ?_; rintro e w' ⟨rfl, rfl⟩)
  rw [fr_of 403 _ rfl]
  exact Hfin.out _ _ ⟨rfl, rfl, rfl, rfl, rfl, rfl, rfl⟩ rfl

set_option maxRecDepth 100000 in
set_option maxHeartbeats 2000000 in
theorem arm_write_no : Arm 6 XNo := by
  intro W a k s l cb K I D x v0 v23 v24 v25 t w Kc Q H ⟨hx, hi⟩ hK
  obtain ⟨f, ef, ⟨g0, g3, g4, g5, g23, g24, g25⟩, g7, g8, g52⟩ := H.frame
  obtain ⟨-, -, -, -, -, hST, hsyn, hD, hk⟩ := H
  obtain ⟨e0, e1, e2⟩ := call_cells hST
  have c1 := write_no hST I D (by rw [at?_no hsyn hi]; rfl)
  have Hfin : Hid (∀ f w', Goes f a s l v0 v23 v24 v25 → w' = w → Kc (Fr 403 f) w') := fun f w' h1 h2 => hK.out f w' s l h1 (h2 ▸ hST.leave) hsyn.more
  subst hx
  clear hST hsyn hi hK
  rw [ef, fr403, g0, g3, g4, g5, g7, g8, g23, g24, g25, g52]
  clear g0 g3 g4 g5 g7 g8 g23 g24 g25 g52 ef
  conv => arg 2; whnf
  unfold ptr
  go_wp2_with (go_at_call 11; refine c1.mono ?_; rintro e w' ⟨rfl, rfl⟩)
  rw [fr_of 403 _ rfl]
  exact Hfin.out _ _ ⟨rfl, rfl, rfl, rfl, rfl, rfl, rfl⟩ rfl

set_option maxRecDepth 100000 in
set_option maxHeartbeats 2000000 in
theorem arm_close_no : Arm 7 XNo := by
  intro W a k s l cb K I D x v0 v23 v24 v25 t w Kc Q H ⟨hx, hi⟩ hK
  obtain ⟨f, ef, ⟨g0, g3, g4, g5, g23, g24, g25⟩, g7, g8, g52⟩ := H.frame
  obtain ⟨-, -, -, -, -, hST, hsyn, hD, hk⟩ := H
  obtain ⟨e0, e1, e2⟩ := call_cells hST
  have c1 := close_no hST I (by rw [at?_no hsyn hi]; rfl)
  have Hfin : Hid (∀ f w', Goes f a s l v0 v23 v24 v25 → w' = w → Kc (Fr 403 f) w') := fun f w' h1 h2 => hK.out f w' s l h1 (h2 ▸ hST.leave) hsyn.more
  subst hx
  clear hST hsyn hi hK
  rw [ef, fr403, g0, g3, g4, g5, g7, g8, g23, g24, g25, g52]
  clear g0 g3 g4 g5 g7 g8 g23 g24 g25 g52 ef
  conv => arg 2; whnf
  unfold ptr
  go_wp2_with (go_at_call 12; refine c1.mono ?_; rintro e w' ⟨rfl, rfl⟩)
  rw [fr_of 403 _ rfl]
  exact Hfin.out _ _ ⟨rfl, rfl, rfl, rfl, rfl, rfl, rfl⟩ rfl
end Go.Proofs.Ytdgohegjpehofaa
