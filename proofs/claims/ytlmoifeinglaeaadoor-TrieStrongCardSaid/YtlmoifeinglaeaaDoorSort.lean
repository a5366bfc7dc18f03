/- slices.Sort at texts, in an owned slice. -/
import Derived.Test.YtlmoifeinglaeaaDoorContains
import Derived.Test.YtlmoifeinglaeaaDoorShelf
import Derived.Sort.OwnSorted
namespace Go.Proofs.YtlmoifeinglaeaaDoor
open Go.RowKit Go.Sort

def sortL (l : List (List UInt8)) : List (List UInt8) := l.mergeSort fun x y => decide (x ≤ y)

theorem sort_slo {w0 w : World} {R : SP} (ao : Option Addr) (cap : Nat) (l : List (List UInt8)) (h : St w0 (slo 9 1 ao l.length cap (strs l) * R) w) (hn : l.length ≤ 1000000) :
    Calls Tryd.prog 36 #[.slice ao l.length cap] w fun e w' => e = .returned (.tuple #[]) ∧ St w0 (slo 9 1 ao l.length cap (strs (sortL l)) * R) w' := by
  rcases h.slo_open with ⟨rfl, h1, rfl, h2, hS⟩ | ⟨g, off, cur, rfl, hb, hc, hS⟩
  · have hl : l = [] := List.eq_nil_of_length_eq_zero h1
    subst hl
    refine (Tryd.slices_Sort_string_none none 0 w).mono ?_
    rintro e w' ⟨rfl, rfl⟩
    exact ⟨rfl, by rw [show sortL [] = [] by simp [sortL]]; exact h⟩
  · have hsl := h.slo_len
    have hlen : (sortL l).length = l.length := List.length_mergeSort l
    have hH : Holds encStr w g off l.toArray := by
      intro j hj
      have hj' : j < l.length := by simpa using hj
      refine ⟨?_, hS.free _⟩
      rw [hS.cell, hc j (by omega)]
      simp [strs, hj', encStr, ba]
    refine (Tryd.slices_Sort_string g off cap l w hH hS.lt (by omega)).mono ?_
    rintro e w' ⟨rfl, n, os, rfl⟩
    refine ⟨rfl, ?_⟩
    have hsz : g < w.heap.size := hS.lt
    have hT : St w0 (SP.blk g (.cells (putCells encStr off (sortL l).toArray cur) 9 (0, 0)) * R) (grow (putRow encStr (Sort.ahead w n) g off (sortL l).toArray) os) := by
      refine hS.turn rfl rfl rfl (by simp) (fun k hk hne => ?_) ?_
      · have : g ≠ k := fun e => hne e.symm
        simp only [grow, putRow, mapBlock, Sort.ahead]
        rw [Array.getElem?_append_left (by simpa using hk), Array.getElem?_modify, if_neg this]
      · simp only [grow, putRow, mapBlock, Sort.ahead]
        rw [Array.getElem?_append_left (by simpa using hsz), Array.getElem?_modify, if_pos rfl, hS.blk]
        rfl
    refine hT.mono (slo_mk (by rw [← hlen]; simp [strs]) hsl.2.1 hsl.2.2 (by simpa [putCells] using hb) (fun j hj => ?_))
    have hj' : j < (sortL l).length := by omega
    have hjc : off + j < cur.size := by have := hsl.2.1; omega
    simp [putCells, hjc, hj', strs, encStr, ba]
end Go.Proofs.YtlmoifeinglaeaaDoor
