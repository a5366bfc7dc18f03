/- The law's anchor of layer 8: fit. -/
import Derived.Test.YtlmoifeinglaeaaDoorMatch
import Derived.Test.YtlmoifeinglaeaaDoorHold
namespace Go.Proofs.YtlmoifeinglaeaaDoor
open Go.RowKit
set_option linter.unusedVariables false

def gET : List UInt8 := [71, 69, 84]
def fitR1 : Rt := ⟨gET, [47, 58, 121, 47, 98], [112, 117, 116]⟩
def fitR2 : Rt := ⟨gET, [47, 97, 47, 58, 120], [103, 101, 116]⟩
theorem fit_match : matchL [fitR1, fitR2] gET [[97], [98]] = ⟨[103, 101, 116], [([120], [98])], [], true⟩ := by decide +kernel
theorem hand_get : handB [103, 101, 116] = true := by decide +kernel

/-- Routes that were built in one block. -/
theorem rts_built (w : World) (l : List Rt) (T : TypeId) (cs : Array Value) (hcs : cs = (rtsC l).toArray) : Rts (w.alloc (.cells cs T)) (some ⟨w.heap.size, 0, none⟩) l := by
  subst hcs
  refine .inr ⟨w.heap.size, 0, rfl, fun j hj => ?_⟩
  have h := fun i => ((St.refl w).alloc (.cells (rtsC l).toArray T)).cell i
  obtain ⟨g1, g2, g3⟩ := rtsC_get l j hj
  rw [Nat.zero_add]
  exact ⟨by rw [h]; simpa using g1, by rw [h]; simpa using g2, by rw [h]; simpa using g3⟩
theorem strs_built (w : World) (l : List (List UInt8)) (T : TypeId) (cs : Array Value) (hcs : cs = (strs l).toArray) : Strs (w.alloc (.cells cs T)) (some ⟨w.heap.size, 0, none⟩) l := by
  subst hcs
  refine .inr ⟨w.heap.size, 0, rfl, fun j hj => ?_⟩
  rw [Nat.zero_add, ((St.refl w).alloc (.cells (strs l).toArray T)).cell j]
  simp [strs, hj]

set_option maxRecDepth 100000 in
set_option maxHeartbeats 4000000 in
theorem fit8_any (w : World) (hg : HG w) :
    Calls Tryd.prog 18 #[] w fun e w' => e = .returned (.bool true) ∧ St w 1 w' := by
  have hS0 := (St.refl w).alloc (.cells (rtsC [fitR1, fitR2]).toArray 39)
  have hw := with_any (fun _ => False) none [] (some ⟨w.heap.size, 0, none⟩) 2 [fitR1, fitR2] _ (.inl ⟨rfl, rfl⟩) (rts_built w [fitR1, fitR2] 39 _ rfl) (by decide) (by decide)
  have HG0 := Lib.hid hg
  have HW := Lib.hid hw
  have HS0 := Lib.hid hS0
  clear hg hw hS0
  go_enter Tryd.func18, Tryd.ntmps18
  go_wp2_with fail
  refine HW.out.mono ?_
  rintro e w1 ⟨tb, rfl, hT, hS1⟩
  have HT := Lib.hid hT
  have HS1 := Lib.hid hS1
  unfold adr
  clear hT hS1
  go_wp2_with fail
  have hm := match_any _ (some ⟨tb, 0, none⟩) ([] ++ [fitR1, fitR2]) gET [[97], [98]] (some ⟨w1.heap.size, 0, none⟩) 2 (w1.alloc (.cells (strs [[97], [98]]).toArray 9)) (HT.out.step ((St.refl w1).alloc _)) (strs_built w1 _ _ _ rfl) (by decide) (by decide) (by decide) (by decide) (by decide)
  rw [List.nil_append, fit_match] at hm
  refine hm.mono ?_
  rintro e w2 ⟨pa, pc, aa, ac, P, rfl, hS2, hC, hA, -, -⟩
  have HT2 := Lib.hid ((HT.out.step ((St.refl w1).alloc _)).step hS2)
  have HG2 := Lib.hid (((HG0.out.step HS0.out).step HS1.out |>.step ((St.refl w1).alloc (.cells (strs [[97], [98]]).toArray 9))).step hS2)
  have HS2 := Lib.hid hS2
  obtain ⟨g, off, rfl, hgl, hc⟩ : ∃ g off, pa = some ⟨g, off, none⟩ ∧ g < w2.heap.size ∧ w2.cell? ⟨g, off + 1, none⟩ = some (.string (ba [98])) := by
    obtain ⟨_, ⟨_, h⟩ | ⟨g, off, e, hg, hc⟩⟩ := hC
    · simp at h
    · exact ⟨g, off, e, hg, hc 1 (by decide)⟩
  clear hm hS2 hC hA
  have t1 : (ba [103, 101, 116]).toList = [103, 101, 116] := by rw [toList_bl, bl_ba]
  have t2 : (ba [98]).toList = [98] := by rw [toList_bl, bl_ba]
  go_wp2_with fail
  refine (len_any _ _ _ _ (HT2.out.step ((St.refl w2).alloc _))).mono ?_
  rintro e w3 ⟨rfl, rfl⟩
  have hh := fun wq (h : HG wq) => handler_any (ba [103, 101, 116]) wq h
  rw [bl_ba, hand_get, show ba [103, 101, 116] = ⟨#[103, 101, 116]⟩ from rfl] at hh
  go_wp2_with fail
  refine (hh _ (HG2.out.step ((St.refl w2).alloc _))).mono ?_
  rintro e w3 ⟨rfl, rfl⟩
  go_wp2_with fail
  go_ret
  exact ⟨rfl, ((HS0.out.rebase HS1.out |>.nil.rebase ((St.refl w1).alloc _) |>.nil).rebase HS2.out |>.nil.rebase ((St.refl w2).alloc _)).nil⟩
end Go.Proofs.YtlmoifeinglaeaaDoor
