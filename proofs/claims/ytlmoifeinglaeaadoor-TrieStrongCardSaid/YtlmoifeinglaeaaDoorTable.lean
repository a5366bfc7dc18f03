/- Tables of routes (layer 7): Handler, Right. -/
import Derived.Test.YtlmoifeinglaeaaDoorPattern
namespace Go.Proofs.YtlmoifeinglaeaaDoor
open Go.RowKit

def handlersL : List (List UInt8) :=
  [[103, 101, 116], [112, 117, 116], [100, 101, 108, 101, 116, 101], [108, 105, 115, 116], [119, 97, 108, 107], [104, 101, 97, 108, 116, 104], [114, 101, 108, 111, 97, 100], [115, 104, 117, 116, 100, 111, 119, 110]]
def handlersA : Array Value :=
  #[.string (ba [103, 101, 116]), .string (ba [112, 117, 116]), .string (ba [100, 101, 108, 101, 116, 101]), .string (ba [108, 105, 115, 116]), .string (ba [119, 97, 108, 107]), .string (ba [104, 101, 97, 108, 116, 104]), .string (ba [114, 101, 108, 111, 97, 100]), .string (ba [115, 104, 117, 116, 100, 111, 119, 110])]

/-- The package-level table of the handlers' names is there. -/
def HG (w : World) : Prop := ∃ t fr, w.heap[0]? = some (.cells handlersA t fr)

theorem HG.step {w w' : World} {P : SP} (h : HG w) (hS : St w P w') : HG w' := by
  obtain ⟨t, fr, hh⟩ := h
  exact ⟨t, fr, by rw [hS.old (Array.getElem?_eq_some_iff.1 hh).1]; exact hh⟩

theorem HG.drewN {w : World} (h : HG w) (n : Nat) : HG (w.drewN n) := h

theorem index_0 (w : World) : (Instr.index 88 (.agg handlersA) (.int .i64 ((0 : Nat) : Int))).run Tryd.prog w = .ok (.string (ba (handlersL.getD 0 []))) w := by kernel_rfl
theorem index_1 (w : World) : (Instr.index 88 (.agg handlersA) (.int .i64 ((1 : Nat) : Int))).run Tryd.prog w = .ok (.string (ba (handlersL.getD 1 []))) w := by kernel_rfl
theorem index_2 (w : World) : (Instr.index 88 (.agg handlersA) (.int .i64 ((2 : Nat) : Int))).run Tryd.prog w = .ok (.string (ba (handlersL.getD 2 []))) w := by kernel_rfl
theorem index_3 (w : World) : (Instr.index 88 (.agg handlersA) (.int .i64 ((3 : Nat) : Int))).run Tryd.prog w = .ok (.string (ba (handlersL.getD 3 []))) w := by kernel_rfl
theorem index_4 (w : World) : (Instr.index 88 (.agg handlersA) (.int .i64 ((4 : Nat) : Int))).run Tryd.prog w = .ok (.string (ba (handlersL.getD 4 []))) w := by kernel_rfl
theorem index_5 (w : World) : (Instr.index 88 (.agg handlersA) (.int .i64 ((5 : Nat) : Int))).run Tryd.prog w = .ok (.string (ba (handlersL.getD 5 []))) w := by kernel_rfl
theorem index_6 (w : World) : (Instr.index 88 (.agg handlersA) (.int .i64 ((6 : Nat) : Int))).run Tryd.prog w = .ok (.string (ba (handlersL.getD 6 []))) w := by kernel_rfl
theorem index_7 (w : World) : (Instr.index 88 (.agg handlersA) (.int .i64 ((7 : Nat) : Int))).run Tryd.prog w = .ok (.string (ba (handlersL.getD 7 []))) w := by kernel_rfl

theorem index_handlers (k : Nat) (hk : k < 8) (w : World) : (Instr.index 88 (.agg handlersA) (.int .i64 (k : Nat))).run Tryd.prog w = .ok (.string (ba (handlersL.getD k []))) w := by
  have e : k = 0 ∨ k = 1 ∨ k = 2 ∨ k = 3 ∨ k = 4 ∨ k = 5 ∨ k = 6 ∨ k = 7 := by omega
  rcases e with rfl | rfl | rfl | rfl | rfl | rfl | rfl | rfl
  · exact index_0 w
  · exact index_1 w
  · exact index_2 w
  · exact index_3 w
  · exact index_4 w
  · exact index_5 w
  · exact index_6 w
  · exact index_7 w

def handB (s : List UInt8) : Bool := handlersL.contains s

set_option maxRecDepth 100000 in
set_option maxHeartbeats 2000000 in
theorem handler_any (s : ByteArray) (w : World) (h : HG w) :
    Calls Tryd.prog 29 #[.string s] w fun e w' => e = .returned (.bool (handB (bl s))) ∧ w = w' := by
  obtain ⟨t, fr, hg⟩ := h
  have hi : (Tryd.prog.info? 88).map (·.size) = some handlersA.size := by kernel_rfl
  have HG := Lib.hid hg
  have HI := Lib.hid hi
  clear hg hi
  go_enter Tryd.func29, Tryd.ntmps29
  go_wp2_with (refine wpList_load_row rfl 88 _ rfl 0 rfl t handlersA fr _ HG.out Tryd.underlying88 rfl HI.out ?_)
  generalize hA : Value.agg handlersA = A at *
  have hidx : ∀ k : Nat, k < 8 → ∀ w, (Instr.index 88 A (.int .i64 (k : Nat))).run Tryd.prog w = .ok (.string (ba (handlersL.getD k []))) w := by
    intro k hk w; rw [← hA]; exact index_handlers k hk w
  have HIDX := Lib.hid hidx
  clear hidx hA
  go_loop [6] (fun i => ∃ k : Nat, k ≤ 8 ∧ i = .int .i64 k ∧ Hid (∀ j, j < k → handlersL.getD j [] ≠ bl s)) (fun i => 8 - (intOf i).toNat)
  case atStart => exact ⟨0, Nat.zero_le _, rfl, fun j hj => by omega⟩
  case round =>
    obtain ⟨k, hk, rfl, H⟩ := hrel
    by_cases hlt : k < 8
    · have hidx := HIDX.out k hlt
      obtain ⟨x, hx⟩ : ∃ x, x = handlersL.getD k [] := ⟨_, rfl⟩
      rw [← hx] at hidx
      by_cases he : x = bl s
      · have hfin : handB (bl s) = true := by
          unfold handB
          rw [List.contains_eq_mem, decide_eq_true_eq, ← he, hx]
          rw [List.getD_eq_getElem?_getD, List.getElem?_eq_getElem (by exact hlt)]
          exact List.getElem_mem _
        have Hfin := Lib.hid hfin
        have ht : ((ba x).toList == s.toList) = true := by rw [beq_iff_eq, toList_bl, toList_bl, bl_ba, he]
        clear hfin he hx
        go_wp2_with fail
        go_ret
        exact ⟨ret_bool Hfin.out.symm, rfl⟩
      · have ht : ((ba x).toList == s.toList) = false := by rw [beq_eq_false_iff_ne, toList_bl, toList_bl, bl_ba]; exact he
        have HN := Lib.hid (hx ▸ he)
        clear hx he
        go_wp2_with fail
        go_round
        case rel => exact ⟨k + 1, by omega, by go_num, fun j hj => by
          by_cases e : j = k
          · subst e; exact HN.out
          · exact H.out j (by omega)⟩
        case measure => simp [intOf]; omega
    · obtain rfl : k = 8 := by omega
      have hfin : handB (bl s) = false := by
        cases e : handB (bl s) with
        | false => rfl
        | true =>
          unfold handB at e
          rw [List.contains_eq_mem, decide_eq_true_eq] at e
          obtain ⟨j, hj, e2⟩ := List.mem_iff_getElem.1 e
          have := H.out j hj
          rw [List.getD_eq_getElem?_getD, List.getElem?_eq_getElem hj] at this
          exact absurd e2 this
      have Hfin := Lib.hid hfin
      clear hfin
      go_wp2_with fail
      go_ret
      exact ⟨ret_bool Hfin.out.symm, rfl⟩

/-- A route. -/
structure Rt where
  m : List UInt8
  p : List UInt8
  h : List UInt8
deriving DecidableEq

def Rt.cells (r : Rt) : List Value := [.string (ba r.m), .string (ba r.p), .string (ba r.h)]
def Rt.val (r : Rt) : Value := .agg #[.string (ba r.m), .string (ba r.p), .string (ba r.h)]
def rightB (r : Rt) : Bool := (patL r.p).2 && tokL r.m && handB r.h

set_option maxRecDepth 100000 in
set_option maxHeartbeats 2000000 in
theorem right_any (r : Rt) (w : World) (h : HG w) (h1 : r.p.length ≤ 1000000) (h2 : r.m.length ≤ 9223372036854775807) :
    Calls Tryd.prog 22 #[.agg #[.string (ba r.m), .string (ba r.p), .string (ba r.h)]] w fun e w' => e = .returned (.bool (rightB r)) ∧ St w 1 w' := by
  obtain ⟨m, p, hh⟩ := r
  simp only at h1 h2
  have hpat := pattern_any (ba p) (w.alloc (.cells #[.string (ba m), .string (ba p), .string (ba hh)] 39)) (by rw [size_ba]; exact h1)
  have hS : St w 1 (w.alloc (.cells #[.string (ba m), .string (ba p), .string (ba hh)] 39)) := ((St.refl w).alloc _).nil
  have HS := Lib.hid hS
  rw [bl_ba] at hpat
  have htok := fun wq => token_any (ba m) wq (by rw [size_ba]; exact h2)
  have hha := fun wq (hq : HG wq) => handler_any (ba hh) wq hq
  simp only [tokB_eq, bl_ba] at htok hha
  have hfin : rightB ⟨m, p, hh⟩ = ((patL p).2 && tokL m && handB hh) := rfl
  rw [hfin]
  have hsz : w.heap.size < (w.alloc (.cells #[.string (ba m), .string (ba p), .string (ba hh)] 39)).heap.size := by simp
  have HH := Lib.hid (h.step hS)
  clear hfin h hS
  generalize (patL p).2 = b1 at *
  generalize (patL p).1 = l1 at *
  generalize tokL m = b2 at *
  generalize handB hh = b3 at *
  cases b1 <;> cases b2 <;> cases b3
  all_goals
    go_enter Tryd.func22, Tryd.ntmps22
    go_wp2_with (first | (go_at_call 30; refine hpat.mono ?_; rintro e w1 ⟨ao, cap, rfl, hS1⟩; have hb1 := hS1.below.cell (p := ⟨w.heap.size, 0, none⟩) hsz; have hb2 := hS1.below.cell (p := ⟨w.heap.size, 2, none⟩) hsz; have HS1 := Lib.hid hS1; clear hS1) | (go_at_call 37; refine (htok _).mono ?_; rintro e w2 ⟨rfl, rfl⟩) | (go_at_call 29; refine (hha _ (HH.out.step HS1.out)).mono ?_; rintro e w2 ⟨rfl, rfl⟩))
    go_ret
    exact ⟨rfl, (HS.out.rebase HS1.out).nil⟩
end Go.Proofs.YtlmoifeinglaeaaDoor
