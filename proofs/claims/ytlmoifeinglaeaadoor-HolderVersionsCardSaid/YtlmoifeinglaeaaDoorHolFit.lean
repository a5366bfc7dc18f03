/- The law's anchor of layer 9: fit. -/
import Derived.Test.YtlmoifeinglaeaaDoorHoldB
namespace Go.Proofs.YtlmoifeinglaeaaDoor
open Go.RowKit

set_option maxRecDepth 100000 in
set_option maxHeartbeats 2000000 in
theorem some_nil (w : World) :
    Calls Tryd.prog 23 #[.slice none 0 0] w fun e w' => e = .returned (.slice none 0 0) ∧ w = w' := by
  go_enter Tryd.func23, Tryd.ntmps23
  go_wp2_with fail
  refine wp_loop_rounds 1 ?_
  rw [rounds_succ]
  go_wp2_with fail
  go_ret
  exact ⟨rfl, rfl⟩

theorem snap_ver (tv : Option Addr) (v : Int) (ro : Option Addr) (n c : Nat) (w : World) : (Instr.field 32 (.agg #[.pointer tv, .int .i64 v, .slice ro n c]) 1).run Tryd.prog w = .ok (.int .i64 v) w := by kernel_rfl
theorem snap_trie (tv : Option Addr) (v : Int) (ro : Option Addr) (n c : Nat) (w : World) : (Instr.field 32 (.agg #[.pointer tv, .int .i64 v, .slice ro n c]) 0).run Tryd.prog w = .ok (.pointer tv) w := by kernel_rfl
theorem snap_routes (tv : Option Addr) (v : Int) (ro : Option Addr) (n c : Nat) (w : World) : (Instr.field 32 (.agg #[.pointer tv, .int .i64 v, .slice ro n c]) 2).run Tryd.prog w = .ok (.slice ro n c) w := by kernel_rfl

theorem tab_first : tabL firstL = firstL := by unfold tabL; rw [if_pos first_check]
theorem first_len : firstL.length = 8 := by decide +kernel
theorem first_bd : ∀ r ∈ firstL, r.p.length ≤ 300000 ∧ r.m.length ≤ 1000000 := by decide +kernel
theorem parse_none : parseL [] = ([], 0) := by decide +kernel

theorem new_first (ao : Option Addr) (cap : Nat) (w : World) (hg : HG w) (hl : Rts w ao firstL) (hcap : ao = none → cap = 0) :
    Calls Tryd.prog 14 #[.slice ao firstL.length cap] w (NewPost w firstL) := by
  have h := new_any ao cap firstL w hg hl (by rw [first_len]; omega) first_bd hcap
  rw [tab_first] at h
  exact h

theorem swap_none (w0 : World) (R : SP) (hb : Nat) (tv0 ro0 : Option Addr) (ver : Int) (n0 rcap0 : Nat) (w : World) (hS : St w0 (holdB hb tv0 ver ro0 n0 rcap0 * R) w) (hg : HG w) (hv : 0 ≤ ver) (hv2 : ver ≤ 1000000) :
    Calls Tryd.prog 15 #[.pointer (adr hb), .string (ba [])] w (SwapYes w hb ver [] w0 R) :=
  (swap_any w0 R hb tv0 ro0 ver n0 rcap0 [] w hS hg hv hv2 (by simp)).mono fun e w' k => by
    unfold SwapPost at k
    rw [parse_none] at k
    simpa using k

set_option maxRecDepth 100000 in
set_option maxHeartbeats 4000000 in
theorem fit9_any (w : World) (hg : HG w) :
    Calls Tryd.prog 13 #[] w fun e w' => e = .returned (.bool true) ∧ St w 1 w' := by
  have hf := first_any w hg
  have sv := snap_ver
  have st := snap_trie
  have hnew := fun (w1 : World) (ao : Option Addr) (cap : Nat) (h1 : St w (slo 39 3 ao firstL.length cap (rtsC firstL)) w1) =>
    new_first ao cap w1 (hg.step h1) ((h1.eq (SP.mul_one _).symm).rts) (fun e => by subst e; exact (h1.eq (SP.mul_one _).symm).slo_none)
  have hf8 : firstL.length = 8 := first_len
  have hlI : ((firstL.length : Int) == 8) = true := by rw [first_len]; rfl
  have HNEW := Lib.hid hnew
  have HG0 := Lib.hid hg
  have HF8 := Lib.hid hf8
  clear hnew hg hf8
  generalize firstL = L at *
  go_enter Tryd.func13, Tryd.ntmps13
  go_wp2_with (go_at_call 26; refine hf.mono ?_; rintro e w1 ⟨ao, cap, rfl, hS1⟩; have HS1 := Lib.hid hS1; clear hS1)
  refine (HNEW.out _ _ _ HS1.out).mono ?_
  rintro e w2 ⟨rfl, tv, ro, rcap, hS2, hN2⟩
  have HS2 := Lib.hid hS2
  have HN2 := Lib.hid hN2
  unfold adr
  clear hS2 hN2
  go_wp2_with fail
  refine (load_any _ _ _ _ _ _ _ _ _ HS2.out).mono ?_
  rintro e w3 ⟨rfl, hS3⟩
  have HS3 := Lib.hid ((((HS2.out.rebase hS3).eq (SP.one_mul _)).alloc (.cells #[.pointer tv, .int .i64 1, .slice ro L.length rcap] 32)).eq (SP.mul_left_comm _ _ _))
  unfold snapV
  go_wp2_with fail
  have hsw := swap_none w1 _ _ _ _ _ _ _ _ HS3.out (((HG0.out.step HS1.out).step HS2.out.nil).step (((St.refl w2).rebase hS3).alloc _)) (by omega) (by omega)
  rw [show ba [] = ⟨#[]⟩ from rfl] at hsw
  unfold adr at hsw
  have hst23 := ((hS3.alloc (.cells #[.pointer tv, .int .i64 1, .slice ro L.length rcap] 32)))
  have HN3 := Lib.hid (HN2.out.step hst23)
  clear hS3 hst23
  refine hsw.mono ?_
  rintro e w4 ⟨rfl, tv4, ro4, rcap4, hS4, hN4, hK4⟩
  rw [show (1 : Int) + 1 = 2 from rfl, List.length_nil] at hS4
  have c1 := (hS4.eq (SP.mul_left_comm _ _ _)).cell 1
  have c0 := (hS4.eq (SP.mul_left_comm _ _ _)).cell 0
  have hlb := (hS4.eq (SP.mul_left_comm _ _ _)).lt
  simp at c0 c1
  have HS4 := Lib.hid hS4
  have HN4 := Lib.hid hN4
  have HN5 := Lib.hid (HN3.out.keep (fun x o hx ho => hK4 x o (by
    have : w1.heap.size < x := hx
    omega) ho))
  clear hS4 hN4 hK4 hsw
  go_wp2_with fail
  refine (load_any _ _ _ _ _ _ _ _ _ HS4.out).mono ?_
  rintro e w5 ⟨rfl, hS5⟩
  unfold snapV
  have HS5 := Lib.hid hS5
  clear hS5
  go_wp2_with fail
  refine (load_any _ _ _ _ _ _ _ _ _ ((HS4.out.rebase HS5.out).eq (SP.one_mul _))).mono ?_
  rintro e w6 ⟨rfl, hS6⟩
  unfold snapV
  have HS6 := Lib.hid ((St.refl w4).rebase HS5.out |>.rebase hS6).nil
  clear hS6
  go_wp2_with fail
  refine (len_any _ _ _ _ (HN4.out.t.step HS6.out)).mono ?_
  rintro e w7 ⟨rfl, rfl⟩
  have d0 := (HS6.out.below.cell (p := ⟨w3.heap.size, 0, none⟩) hlb).trans c0
  have d1 := (HS6.out.below.cell (p := ⟨w3.heap.size, 1, none⟩) hlb).trans c1
  go_wp2_with fail
  refine (len_any _ _ _ _ (HN5.out.t.step HS6.out)).mono ?_
  rintro e w7 ⟨rfl, rfl⟩
  go_wp2_with (go_at_call 23; refine (some_nil _).mono ?_; rintro e w7 ⟨rfl, rfl⟩)
  go_ret
  exact ⟨rfl, ((HS1.out.rebase HS4.out).nil.rebase HS6.out).nil⟩
end Go.Proofs.YtlmoifeinglaeaaDoor
