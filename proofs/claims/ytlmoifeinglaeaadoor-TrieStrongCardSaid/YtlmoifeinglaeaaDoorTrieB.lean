/- Trees of routes (layer 8): slices.Clone of edges. -/
import Derived.Test.YtlmoifeinglaeaaDoorTrieA
import Derived.Test.YtlmoifeinglaeaaDoorRd
import Derived.WalkLawsBesides
namespace Go.Proofs.YtlmoifeinglaeaaDoor
open Go.RowKit

theorem info_edge : (Tryd.prog.info? 107).map (fun i => (i.zero, i.size, i.bytes)) = some (some (.agg #[.string ByteArray.empty, .pointer none]), 2, 24) := by kernel_rfl

set_option maxRecDepth 100000 in
set_option maxHeartbeats 2000000 in
theorem clone_any (ao : Option Addr) (n cap : Nat) (xs : List Value) (w : World) (h : Cells w 2 ao n xs) (hn : ao = none → cap = 0) (hb : n ≤ 1000000) (h1 : ∀ u ∈ xs, u.oneCell' = true) :
    Calls Tryd.prog 55 #[.slice ao n cap] w fun e w' => ∃ ao' cap', e = .returned (.slice ao' n cap') ∧ (ao' = none → cap' = 0) ∧
      St w (slo 107 2 ao' n cap' xs) w' := by
  obtain ⟨j0, hj, hy0, hy1, hy2⟩ := info_parts info_edge
  have heq := fun (wq : World) (a : Option Addr) (n c : Nat) => Lib.run_eql_slice_nil (P := Tryd.prog) wq 90 107 a n c 0 0 Tryd.underlying90
  obtain ⟨hl, ⟨rfl, rfl⟩ | ⟨g, off, rfl, hg, hc⟩⟩ := h
  · obtain rfl := hn rfl
    have hx : xs = [] := List.eq_nil_of_length_eq_zero (by simpa using hl)
    subst hx
    clear hj hn
    go_enter Tryd.func55, Tryd.ntmps55
    go_wp2_with fail
    go_ret
    exact ⟨none, 0, rfl, fun _ => rfl, (St.refl w).eq (slo_nil ..).symm⟩
  · have hS1 : St w (slo 107 2 (some ⟨w.heap.size, 0, none⟩) 0 0 [] * 1) (w.alloc (.cells #[] 107)) :=
      ((St.refl w).alloc _).mono (slo_mk (by simp) (by simp) (by simp [maxLen]) (by simp) (by intro j hj; omega))
    have HS1 := Lib.hid hS1
    have HC := Lib.hid hc
    clear hS1 hc hn
    have hnw : ∀ j u, xs[j]? = some u → (w.alloc (.cells #[] 107)).cell? ((⟨g, off, none⟩ : Addr).add j) = some u := by
      intro j u hu
      have hjl : j < n * 2 := by rw [← hl]; exact (List.getElem?_eq_some_iff.1 hu).1
      rw [add_none, (((St.refl w).alloc _).below).cell (p := ⟨g, off + j, none⟩) hg, HC.out j hjl, hu]
    have HNW := Lib.hid hnw
    clear hnw
    go_enter Tryd.func55, Tryd.ntmps55
    go_wp2_with (at_builtin; refine wpList_append_slo rfl _ _ 90 rfl j0 (.agg #[.string ByteArray.empty, .pointer none]) 24 Tryd.underlying90 hj hy0 hy1 hy2 rfl (by decide) HS1.out rfl ⟨g, off, none⟩ n cap xs rfl hl HNW.out h1 (by omega) (by unfold maxLen; omega) ?_; intro ao' cap' w1 hw1; have HW1 := Lib.hid hw1; clear hw1)
    go_ret
    have hfin := HW1.out.eq (by rw [Nat.zero_add, List.nil_append] : _ = slo 107 2 ao' n cap' xs * 1)
    exact ⟨ao', cap', rfl, fun e => by subst e; exact hfin.slo_none, hfin.eq (SP.mul_one _)⟩
end Go.Proofs.YtlmoifeinglaeaaDoor
