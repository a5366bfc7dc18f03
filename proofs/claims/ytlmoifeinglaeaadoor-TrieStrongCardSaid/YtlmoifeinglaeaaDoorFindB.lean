/- Trees of routes (layer 8): find, a segment more: the walks (printed by gen_find.py). -/
import Derived.Test.YtlmoifeinglaeaaDoorFindA
import Derived.BigQuiet
namespace Go.Proofs.YtlmoifeinglaeaaDoor
open Go.RowKit
attribute [local go_sem ↓] Go.wp_at_zero Go.wp_at_succ
set_option linter.unusedVariables false

/-- It returns so, in such a state. -/
def Ret (w0 : World) (v : Bool) (Y : SP) (e : Ending) (w' : World) : Prop := e = .returned (.bool v) ∧ St w0 Y w'


set_option maxRecDepth 100000 in
set_option maxHeartbeats 8000000 in
theorem find_hit1 {w0 w : World} {Y0 Y1 : SP} {p4 p5 p8 b g off n lcap M : Nat} {x : List UInt8} {T : Nd} {A : Nat → Prop} (hx : x ≠ []) (hS : St w0 Y0 w) (hlo : w0.cell? ⟨g, off, none⟩ = some (.string (ba x))) (hcap : n + 1 ≤ lcap) (hmax : lcap ≤ 9223372036854775807) (hne : ¬ lcap = 1) (hstep : Calls Tryd.prog 48 #[.pointer (some ⟨b, 0, none⟩), .string (ba x)] w.drew (StepPost w0 M A T w.drew)) (hf1 : ∀ v5 wq, Rep w0 M A v5 T → St w0 Y0 wq → Calls Tryd.prog 32 #[.pointer v5, .slice (some ⟨g, off + 1, none⟩) n (lcap - 1), fnM p4 p5 p8] wq (Ret w0 false Y1)) :
    Calls Tryd.prog 32 #[.pointer (some ⟨b, 0, none⟩), .slice (some ⟨g, off, none⟩) (n + 1) lcap, fnM p4 p5 p8] w (Ret w0 false Y1) := by
  have HS := Lib.hid hS
  have hgl : g < w0.heap.size := World.block_lt_of_cell? w0 _ hlo
  have c0 := (hS.below.cell (p := ⟨g, off, none⟩) hgl).trans hlo
  have HLO := Lib.hid hlo
  have t0 : (ba x).toList.isEmpty = false := by rw [toList_bl, bl_ba]; cases x <;> simp_all
  have t1 : (!(ba x).toList.isEmpty) = true := by rw [t0]; rfl
  clear hx
  have i1 : (1 : Int) ≤ (n : Int) + 1 := by omega
  have i2 : (1 : Int) ≤ (lcap : Int) := by omega
  have i3 : ((n : Int) + 1 - 1).toNat = n := by omega
  have i4 : (((n + 1 : Nat) : Int) - 1).toNat = n := by omega
  have i5 : (1 : Int) ≤ ((n + 1 : Nat) : Int) := by omega
  have i6 : ((n : Int) + 1) ≤ (lcap : Int) := by omega
  have i7 : ((n : Int) + 1 == 0) = false := by rw [beq_eq_false_iff_ne]; omega
  have i8 : (0 : Int) < (n : Int) + 1 := by omega
  have HF1 := Lib.hid hf1
  have HSTEP := Lib.hid hstep
  clear hS hlo hgl hf1 hstep
  unfold fnM at *
  go_enter Tryd.func32, Tryd.ntmps32
  go_wp2_with fail
  go_region_held3 (fun w' => w'.cell? ⟨g, off, none⟩ = some (.string (ba x))) (first | exact c0 | exact c5 | exact c6 | go_keep) (first | (go_at_call 48; refine HSTEP.out.mono ?_; rintro e w5 ⟨v5, rfl, hR5, hS5⟩; have HR5 := Lib.hid hR5; have HS5 := Lib.hid ((HS.out.drew.rebase hS5).eq (SP.one_mul _)); have c5 := (HS5.out.below.cell (p := ⟨g, off, none⟩) (World.block_lt_of_cell? w0 _ HLO.out)).trans HLO.out; clear hR5 hS5) | (go_at_call 32; refine (HF1.out _ _ HR5.out HS5.out).mono ?_; rintro e w6 ⟨rfl, hS6⟩; have HS6 := Lib.hid hS6; have c6 := (HS6.out.below.cell (p := ⟨g, off, none⟩) (World.block_lt_of_cell? w0 _ HLO.out)).trans HLO.out; clear hS6))
  go_wp2_with fail
  go_ret
  exact ⟨rfl, HS6.out⟩

set_option maxRecDepth 100000 in
set_option maxHeartbeats 8000000 in
theorem find_hit2 {w0 w : World} {Y0 Y1 Y2 : SP} {p4 p5 p8 b g off n lcap M : Nat} {vp : Option Addr} {x : List UInt8} {T : Nd} {A : Nat → Prop} (hx : x ≠ []) (hS : St w0 Y0 w) (hlo : w0.cell? ⟨g, off, none⟩ = some (.string (ba x))) (hcap : n + 1 ≤ lcap) (hmax : lcap ≤ 9223372036854775807) (hne : ¬ lcap = 1) (hb2 : w0.cell? ⟨b, 2, none⟩ = some (.pointer vp)) (hstep : Calls Tryd.prog 48 #[.pointer (some ⟨b, 0, none⟩), .string (ba x)] w.drew (StepPost w0 M A T w.drew)) (hf1 : ∀ v5 wq, Rep w0 M A v5 T → St w0 Y0 wq → Calls Tryd.prog 32 #[.pointer v5, .slice (some ⟨g, off + 1, none⟩) n (lcap - 1), fnM p4 p5 p8] wq (Ret w0 true Y1)) (hf2 : ∀ wq, St w0 Y1 wq → Calls Tryd.prog 32 #[.pointer vp, .slice (some ⟨g, off + 1, none⟩) n (lcap - 1), fnM p4 p5 p8] wq (Ret w0 false Y2)) :
    Calls Tryd.prog 32 #[.pointer (some ⟨b, 0, none⟩), .slice (some ⟨g, off, none⟩) (n + 1) lcap, fnM p4 p5 p8] w (Ret w0 false Y2) := by
  have HS := Lib.hid hS
  have hgl : g < w0.heap.size := World.block_lt_of_cell? w0 _ hlo
  have c0 := (hS.below.cell (p := ⟨g, off, none⟩) hgl).trans hlo
  have HLO := Lib.hid hlo
  have t0 : (ba x).toList.isEmpty = false := by rw [toList_bl, bl_ba]; cases x <;> simp_all
  have t1 : (!(ba x).toList.isEmpty) = true := by rw [t0]; rfl
  clear hx
  have i1 : (1 : Int) ≤ (n : Int) + 1 := by omega
  have i2 : (1 : Int) ≤ (lcap : Int) := by omega
  have i3 : ((n : Int) + 1 - 1).toNat = n := by omega
  have i4 : (((n + 1 : Nat) : Int) - 1).toNat = n := by omega
  have i5 : (1 : Int) ≤ ((n + 1 : Nat) : Int) := by omega
  have i6 : ((n : Int) + 1) ≤ (lcap : Int) := by omega
  have i7 : ((n : Int) + 1 == 0) = false := by rw [beq_eq_false_iff_ne]; omega
  have i8 : (0 : Int) < (n : Int) + 1 := by omega
  have HF1 := Lib.hid hf1
  have HF2 := Lib.hid hf2
  have HSTEP := Lib.hid hstep
  have HB2 := Lib.hid hb2
  clear hS hlo hgl hf1 hf2 hstep hb2
  unfold fnM at *
  go_enter Tryd.func32, Tryd.ntmps32
  go_wp2_with fail
  go_region_held3 (fun w' => w'.cell? ⟨g, off, none⟩ = some (.string (ba x))) (first | exact c0 | exact c5 | exact c6 | go_keep) (first | (go_at_call 48; refine HSTEP.out.mono ?_; rintro e w5 ⟨v5, rfl, hR5, hS5⟩; have HR5 := Lib.hid hR5; have HS5 := Lib.hid ((HS.out.drew.rebase hS5).eq (SP.one_mul _)); have c5 := (HS5.out.below.cell (p := ⟨g, off, none⟩) (World.block_lt_of_cell? w0 _ HLO.out)).trans HLO.out; clear hR5 hS5) | (go_at_call 32; refine (HF1.out _ _ HR5.out HS5.out).mono ?_; rintro e w6 ⟨rfl, hS6⟩; have HS6 := Lib.hid hS6; have c6 := (HS6.out.below.cell (p := ⟨g, off, none⟩) (World.block_lt_of_cell? w0 _ HLO.out)).trans HLO.out; clear hS6))
  go_wp2_with fail
  have d0 := (HS6.out.below.cell (p := ⟨b, 2, none⟩) (World.block_lt_of_cell? w0 _ HB2.out)).trans HB2.out
  go_region_held3 (fun w' => w'.cell? ⟨g, off, none⟩ = some (.string (ba x)) ∧ w'.cell? ⟨b, 2, none⟩ = some (.pointer vp)) (first | exact ⟨c6, d0⟩ | exact ⟨c8, d8⟩ | go_keep) ((go_at_call 32; refine (HF2.out _ HS6.out.drew).mono ?_; rintro e w8 ⟨rfl, hS8⟩; have HS8 := Lib.hid hS8; have c8 := (HS8.out.below.cell (p := ⟨g, off, none⟩) (World.block_lt_of_cell? w0 _ HLO.out)).trans HLO.out; have d8 := (HS8.out.below.cell (p := ⟨b, 2, none⟩) (World.block_lt_of_cell? w0 _ HB2.out)).trans HB2.out; clear hS8))
  go_wp2_with fail
  go_ret
  exact ⟨rfl, HS8.out⟩

set_option maxRecDepth 100000 in
set_option maxHeartbeats 8000000 in
theorem find_rest0 {w0 w : World} {Y0 Y1 Y2 : SP} {p4 p5 p8 b g off n lcap M : Nat} {vp : Option Addr} {x : List UInt8} {T : Nd} {A : Nat → Prop} (hx : x ≠ []) (hS : St w0 Y0 w) (hlo : w0.cell? ⟨g, off, none⟩ = some (.string (ba x))) (hcap : n + 1 ≤ lcap) (hmax : lcap ≤ 9223372036854775807) (hne : ¬ lcap = 1) (hb2 : w0.cell? ⟨b, 2, none⟩ = some (.pointer vp)) (hb3 : w0.cell? ⟨b, 3, none⟩ = some (.pointer none)) (hstep : Calls Tryd.prog 48 #[.pointer (some ⟨b, 0, none⟩), .string (ba x)] w.drew (StepPost w0 M A T w.drew)) (hf1 : ∀ v5 wq, Rep w0 M A v5 T → St w0 Y0 wq → Calls Tryd.prog 32 #[.pointer v5, .slice (some ⟨g, off + 1, none⟩) n (lcap - 1), fnM p4 p5 p8] wq (Ret w0 true Y1)) (hf2 : ∀ wq, St w0 Y1 wq → Calls Tryd.prog 32 #[.pointer vp, .slice (some ⟨g, off + 1, none⟩) n (lcap - 1), fnM p4 p5 p8] wq (Ret w0 true Y2)) :
    Calls Tryd.prog 32 #[.pointer (some ⟨b, 0, none⟩), .slice (some ⟨g, off, none⟩) (n + 1) lcap, fnM p4 p5 p8] w (Ret w0 true Y2) := by
  have HS := Lib.hid hS
  have hgl : g < w0.heap.size := World.block_lt_of_cell? w0 _ hlo
  have c0 := (hS.below.cell (p := ⟨g, off, none⟩) hgl).trans hlo
  have HLO := Lib.hid hlo
  have t0 : (ba x).toList.isEmpty = false := by rw [toList_bl, bl_ba]; cases x <;> simp_all
  have t1 : (!(ba x).toList.isEmpty) = true := by rw [t0]; rfl
  clear hx
  have i1 : (1 : Int) ≤ (n : Int) + 1 := by omega
  have i2 : (1 : Int) ≤ (lcap : Int) := by omega
  have i3 : ((n : Int) + 1 - 1).toNat = n := by omega
  have i4 : (((n + 1 : Nat) : Int) - 1).toNat = n := by omega
  have i5 : (1 : Int) ≤ ((n + 1 : Nat) : Int) := by omega
  have i6 : ((n : Int) + 1) ≤ (lcap : Int) := by omega
  have i7 : ((n : Int) + 1 == 0) = false := by rw [beq_eq_false_iff_ne]; omega
  have i8 : (0 : Int) < (n : Int) + 1 := by omega
  have HF1 := Lib.hid hf1
  have HF2 := Lib.hid hf2
  have HSTEP := Lib.hid hstep
  have HB2 := Lib.hid hb2
  have HB3 := Lib.hid hb3
  clear hS hlo hgl hf1 hf2 hstep hb2 hb3
  unfold fnM at *
  go_enter Tryd.func32, Tryd.ntmps32
  go_wp2_with fail
  go_region_held3 (fun w' => w'.cell? ⟨g, off, none⟩ = some (.string (ba x))) (first | exact c0 | exact c5 | exact c6 | go_keep) (first | (go_at_call 48; refine HSTEP.out.mono ?_; rintro e w5 ⟨v5, rfl, hR5, hS5⟩; have HR5 := Lib.hid hR5; have HS5 := Lib.hid ((HS.out.drew.rebase hS5).eq (SP.one_mul _)); have c5 := (HS5.out.below.cell (p := ⟨g, off, none⟩) (World.block_lt_of_cell? w0 _ HLO.out)).trans HLO.out; clear hR5 hS5) | (go_at_call 32; refine (HF1.out _ _ HR5.out HS5.out).mono ?_; rintro e w6 ⟨rfl, hS6⟩; have HS6 := Lib.hid hS6; have c6 := (HS6.out.below.cell (p := ⟨g, off, none⟩) (World.block_lt_of_cell? w0 _ HLO.out)).trans HLO.out; clear hS6))
  go_wp2_with fail
  have d0 := (HS6.out.below.cell (p := ⟨b, 2, none⟩) (World.block_lt_of_cell? w0 _ HB2.out)).trans HB2.out
  go_region_held3 (fun w' => w'.cell? ⟨g, off, none⟩ = some (.string (ba x)) ∧ w'.cell? ⟨b, 2, none⟩ = some (.pointer vp)) (first | exact ⟨c6, d0⟩ | exact ⟨c8, d8⟩ | go_keep) ((go_at_call 32; refine (HF2.out _ HS6.out.drew).mono ?_; rintro e w8 ⟨rfl, hS8⟩; have HS8 := Lib.hid hS8; have c8 := (HS8.out.below.cell (p := ⟨g, off, none⟩) (World.block_lt_of_cell? w0 _ HLO.out)).trans HLO.out; have d8 := (HS8.out.below.cell (p := ⟨b, 2, none⟩) (World.block_lt_of_cell? w0 _ HB2.out)).trans HB2.out; clear hS8))
  have e3 := (HS8.out.below.cell (p := ⟨b, 3, none⟩) (World.block_lt_of_cell? w0 _ HB3.out)).trans HB3.out
  go_wp2_with fail
  go_ret
  exact ⟨rfl, HS8.out⟩

set_option maxRecDepth 100000 in
set_option maxHeartbeats 8000000 in
theorem find_rest1 {w0 w : World} {Y0 Y1 Y2 Y3 : SP} {p4 p5 p8 b g off n lcap M rb rn rc : Nat} {vp ro : Option Addr} {x : List UInt8} {T : Nd} {A : Nat → Prop} {b3 : Bool} (hx : x ≠ []) (hS : St w0 Y0 w) (hlo : w0.cell? ⟨g, off, none⟩ = some (.string (ba x))) (hcap : n + 1 ≤ lcap) (hmax : lcap ≤ 9223372036854775807) (hne : ¬ lcap = 1) (hb2 : w0.cell? ⟨b, 2, none⟩ = some (.pointer vp)) (hb3 : w0.cell? ⟨b, 3, none⟩ = some (.pointer (some ⟨rb, 0, none⟩))) (hr4 : w0.cell? ⟨rb, 4, none⟩ = some (.slice ro rn rc)) (hstep : Calls Tryd.prog 48 #[.pointer (some ⟨b, 0, none⟩), .string (ba x)] w.drew (StepPost w0 M A T w.drew)) (hf1 : ∀ v5 wq, Rep w0 M A v5 T → St w0 Y0 wq → Calls Tryd.prog 32 #[.pointer v5, .slice (some ⟨g, off + 1, none⟩) n (lcap - 1), fnM p4 p5 p8] wq (Ret w0 true Y1)) (hf2 : ∀ wq, St w0 Y1 wq → Calls Tryd.prog 32 #[.pointer vp, .slice (some ⟨g, off + 1, none⟩) n (lcap - 1), fnM p4 p5 p8] wq (Ret w0 true Y2)) (hy : ∀ wq, St w0 Y2 wq → Calls Tryd.prog 33 #[.slice ro rn rc, .pointer (some ⟨p4, 0, none⟩), .pointer (some ⟨p5, 0, none⟩), .pointer (some ⟨p8, 0, none⟩)] wq (Ret w0 b3 Y3)) :
    Calls Tryd.prog 32 #[.pointer (some ⟨b, 0, none⟩), .slice (some ⟨g, off, none⟩) (n + 1) lcap, fnM p4 p5 p8] w (Ret w0 b3 Y3) := by
  have HS := Lib.hid hS
  have hgl : g < w0.heap.size := World.block_lt_of_cell? w0 _ hlo
  have c0 := (hS.below.cell (p := ⟨g, off, none⟩) hgl).trans hlo
  have HLO := Lib.hid hlo
  have t0 : (ba x).toList.isEmpty = false := by rw [toList_bl, bl_ba]; cases x <;> simp_all
  have t1 : (!(ba x).toList.isEmpty) = true := by rw [t0]; rfl
  clear hx
  have i1 : (1 : Int) ≤ (n : Int) + 1 := by omega
  have i2 : (1 : Int) ≤ (lcap : Int) := by omega
  have i3 : ((n : Int) + 1 - 1).toNat = n := by omega
  have i4 : (((n + 1 : Nat) : Int) - 1).toNat = n := by omega
  have i5 : (1 : Int) ≤ ((n + 1 : Nat) : Int) := by omega
  have i6 : ((n : Int) + 1) ≤ (lcap : Int) := by omega
  have i7 : ((n : Int) + 1 == 0) = false := by rw [beq_eq_false_iff_ne]; omega
  have i8 : (0 : Int) < (n : Int) + 1 := by omega
  have HF1 := Lib.hid hf1
  have HF2 := Lib.hid hf2
  have HY := Lib.hid hy
  have HSTEP := Lib.hid hstep
  have HB2 := Lib.hid hb2
  have HB3 := Lib.hid hb3
  have HR4 := Lib.hid hr4
  clear hS hlo hgl hf1 hf2 hy hstep hb2 hb3 hr4
  unfold fnM at *
  go_enter Tryd.func32, Tryd.ntmps32
  go_wp2_with fail
  go_region_held3 (fun w' => w'.cell? ⟨g, off, none⟩ = some (.string (ba x))) (first | exact c0 | exact c5 | exact c6 | go_keep) (first | (go_at_call 48; refine HSTEP.out.mono ?_; rintro e w5 ⟨v5, rfl, hR5, hS5⟩; have HR5 := Lib.hid hR5; have HS5 := Lib.hid ((HS.out.drew.rebase hS5).eq (SP.one_mul _)); have c5 := (HS5.out.below.cell (p := ⟨g, off, none⟩) (World.block_lt_of_cell? w0 _ HLO.out)).trans HLO.out; clear hR5 hS5) | (go_at_call 32; refine (HF1.out _ _ HR5.out HS5.out).mono ?_; rintro e w6 ⟨rfl, hS6⟩; have HS6 := Lib.hid hS6; have c6 := (HS6.out.below.cell (p := ⟨g, off, none⟩) (World.block_lt_of_cell? w0 _ HLO.out)).trans HLO.out; clear hS6))
  go_wp2_with fail
  have d0 := (HS6.out.below.cell (p := ⟨b, 2, none⟩) (World.block_lt_of_cell? w0 _ HB2.out)).trans HB2.out
  go_region_held3 (fun w' => w'.cell? ⟨g, off, none⟩ = some (.string (ba x)) ∧ w'.cell? ⟨b, 2, none⟩ = some (.pointer vp)) (first | exact ⟨c6, d0⟩ | exact ⟨c8, d8⟩ | go_keep) ((go_at_call 32; refine (HF2.out _ HS6.out.drew).mono ?_; rintro e w8 ⟨rfl, hS8⟩; have HS8 := Lib.hid hS8; have c8 := (HS8.out.below.cell (p := ⟨g, off, none⟩) (World.block_lt_of_cell? w0 _ HLO.out)).trans HLO.out; have d8 := (HS8.out.below.cell (p := ⟨b, 2, none⟩) (World.block_lt_of_cell? w0 _ HB2.out)).trans HB2.out; clear hS8))
  have e3 := (HS8.out.below.cell (p := ⟨b, 3, none⟩) (World.block_lt_of_cell? w0 _ HB3.out)).trans HB3.out
  have e4 := (HS8.out.below.cell (p := ⟨rb, 4, none⟩) (World.block_lt_of_cell? w0 _ HR4.out)).trans HR4.out
  go_wp2_with (go_at_call 33; refine (HY.out _ HS8.out).mono ?_; rintro e w9 ⟨rfl, hS9⟩; have HS9 := Lib.hid hS9; clear hS9)
  go_ret
  exact ⟨rfl, HS9.out⟩

set_option maxRecDepth 100000 in
set_option maxHeartbeats 8000000 in
theorem find_void0 {w0 w : World} {Y0 : SP} {p4 p5 p8 b g off n lcap : Nat} {x : List UInt8} (hx : x = []) (hS : St w0 Y0 w) (hlo : w0.cell? ⟨g, off, none⟩ = some (.string (ba x))) (hcap : n + 1 ≤ lcap) (hmax : lcap ≤ 9223372036854775807) (hne : ¬ lcap = 1) (hb3 : w0.cell? ⟨b, 3, none⟩ = some (.pointer none)) :
    Calls Tryd.prog 32 #[.pointer (some ⟨b, 0, none⟩), .slice (some ⟨g, off, none⟩) (n + 1) lcap, fnM p4 p5 p8] w (Ret w0 true Y0) := by
  have HS := Lib.hid hS
  have hgl : g < w0.heap.size := World.block_lt_of_cell? w0 _ hlo
  have c0 := (hS.below.cell (p := ⟨g, off, none⟩) hgl).trans hlo
  have HLO := Lib.hid hlo
  subst hx
  have t0 : (ba []).toList.isEmpty = true := by rw [toList_bl, bl_ba]; rfl
  have t1 : (!(ba []).toList.isEmpty) = false := by rw [t0]; rfl
  have i1 : (1 : Int) ≤ (n : Int) + 1 := by omega
  have i2 : (1 : Int) ≤ (lcap : Int) := by omega
  have i3 : ((n : Int) + 1 - 1).toNat = n := by omega
  have i4 : (((n + 1 : Nat) : Int) - 1).toNat = n := by omega
  have i5 : (1 : Int) ≤ ((n + 1 : Nat) : Int) := by omega
  have i6 : ((n : Int) + 1) ≤ (lcap : Int) := by omega
  have i7 : ((n : Int) + 1 == 0) = false := by rw [beq_eq_false_iff_ne]; omega
  have i8 : (0 : Int) < (n : Int) + 1 := by omega
  have HB3 := Lib.hid hb3
  clear hS hlo hgl hb3
  unfold fnM at *
  go_enter Tryd.func32, Tryd.ntmps32
  go_wp2_with fail
  go_quiet (fail)
  go_wp2_with fail
  go_quiet (fail)
  have e3 := (HS.out.below.cell (p := ⟨b, 3, none⟩) (World.block_lt_of_cell? w0 _ HB3.out)).trans HB3.out
  go_wp2_with fail
  go_ret
  exact ⟨rfl, HS.out.drewN _⟩

set_option maxRecDepth 100000 in
set_option maxHeartbeats 8000000 in
theorem find_void1 {w0 w : World} {Y0 Y3 : SP} {p4 p5 p8 b g off n lcap rb rn rc : Nat} {ro : Option Addr} {x : List UInt8} {b3 : Bool} (hx : x = []) (hS : St w0 Y0 w) (hlo : w0.cell? ⟨g, off, none⟩ = some (.string (ba x))) (hcap : n + 1 ≤ lcap) (hmax : lcap ≤ 9223372036854775807) (hne : ¬ lcap = 1) (hb3 : w0.cell? ⟨b, 3, none⟩ = some (.pointer (some ⟨rb, 0, none⟩))) (hr4 : w0.cell? ⟨rb, 4, none⟩ = some (.slice ro rn rc)) (hy : ∀ wq, St w0 Y0 wq → Calls Tryd.prog 33 #[.slice ro rn rc, .pointer (some ⟨p4, 0, none⟩), .pointer (some ⟨p5, 0, none⟩), .pointer (some ⟨p8, 0, none⟩)] wq (Ret w0 b3 Y3)) :
    Calls Tryd.prog 32 #[.pointer (some ⟨b, 0, none⟩), .slice (some ⟨g, off, none⟩) (n + 1) lcap, fnM p4 p5 p8] w (Ret w0 b3 Y3) := by
  have HS := Lib.hid hS
  have hgl : g < w0.heap.size := World.block_lt_of_cell? w0 _ hlo
  have c0 := (hS.below.cell (p := ⟨g, off, none⟩) hgl).trans hlo
  have HLO := Lib.hid hlo
  subst hx
  have t0 : (ba []).toList.isEmpty = true := by rw [toList_bl, bl_ba]; rfl
  have t1 : (!(ba []).toList.isEmpty) = false := by rw [t0]; rfl
  have i1 : (1 : Int) ≤ (n : Int) + 1 := by omega
  have i2 : (1 : Int) ≤ (lcap : Int) := by omega
  have i3 : ((n : Int) + 1 - 1).toNat = n := by omega
  have i4 : (((n + 1 : Nat) : Int) - 1).toNat = n := by omega
  have i5 : (1 : Int) ≤ ((n + 1 : Nat) : Int) := by omega
  have i6 : ((n : Int) + 1) ≤ (lcap : Int) := by omega
  have i7 : ((n : Int) + 1 == 0) = false := by rw [beq_eq_false_iff_ne]; omega
  have i8 : (0 : Int) < (n : Int) + 1 := by omega
  have HY := Lib.hid hy
  have HB3 := Lib.hid hb3
  have HR4 := Lib.hid hr4
  clear hS hlo hgl hy hb3 hr4
  unfold fnM at *
  go_enter Tryd.func32, Tryd.ntmps32
  go_wp2_with fail
  go_quiet (fail)
  go_wp2_with fail
  go_quiet (fail)
  have e3 := (HS.out.below.cell (p := ⟨b, 3, none⟩) (World.block_lt_of_cell? w0 _ HB3.out)).trans HB3.out
  have e4 := (HS.out.below.cell (p := ⟨rb, 4, none⟩) (World.block_lt_of_cell? w0 _ HR4.out)).trans HR4.out
  go_wp2_with (go_at_call 33; refine (HY.out _ (HS.out.drewN _)).mono ?_; rintro e w9 ⟨rfl, hS9⟩; have HS9 := Lib.hid hS9; clear hS9)
  go_ret
  exact ⟨rfl, HS9.out⟩

set_option maxRecDepth 100000 in
set_option maxHeartbeats 8000000 in
theorem find_hit1_one {w0 w : World} {Y0 Y1 : SP} {p4 p5 p8 b g off M : Nat} {x : List UInt8} {T : Nd} {A : Nat → Prop} (hx : x ≠ []) (hS : St w0 Y0 w) (hlo : w0.cell? ⟨g, off, none⟩ = some (.string (ba x))) (hstep : Calls Tryd.prog 48 #[.pointer (some ⟨b, 0, none⟩), .string (ba x)] w.drew (StepPost w0 M A T w.drew)) (hf1 : ∀ v5 wq, Rep w0 M A v5 T → St w0 Y0 wq → Calls Tryd.prog 32 #[.pointer v5, .slice (some ⟨g, off, none⟩) 0 0, fnM p4 p5 p8] wq (Ret w0 false Y1)) :
    Calls Tryd.prog 32 #[.pointer (some ⟨b, 0, none⟩), .slice (some ⟨g, off, none⟩) 1 1, fnM p4 p5 p8] w (Ret w0 false Y1) := by
  have HS := Lib.hid hS
  have hgl : g < w0.heap.size := World.block_lt_of_cell? w0 _ hlo
  have c0 := (hS.below.cell (p := ⟨g, off, none⟩) hgl).trans hlo
  have HLO := Lib.hid hlo
  have t0 : (ba x).toList.isEmpty = false := by rw [toList_bl, bl_ba]; cases x <;> simp_all
  have t1 : (!(ba x).toList.isEmpty) = true := by rw [t0]; rfl
  clear hx
  have HF1 := Lib.hid hf1
  have HSTEP := Lib.hid hstep
  clear hS hlo hgl hf1 hstep
  unfold fnM at *
  go_enter Tryd.func32, Tryd.ntmps32
  go_wp2_with fail
  go_region_held3 (fun w' => w'.cell? ⟨g, off, none⟩ = some (.string (ba x))) (first | exact c0 | exact c5 | exact c6 | go_keep) (first | (go_at_call 48; refine HSTEP.out.mono ?_; rintro e w5 ⟨v5, rfl, hR5, hS5⟩; have HR5 := Lib.hid hR5; have HS5 := Lib.hid ((HS.out.drew.rebase hS5).eq (SP.one_mul _)); have c5 := (HS5.out.below.cell (p := ⟨g, off, none⟩) (World.block_lt_of_cell? w0 _ HLO.out)).trans HLO.out; clear hR5 hS5) | (go_at_call 32; refine (HF1.out _ _ HR5.out HS5.out).mono ?_; rintro e w6 ⟨rfl, hS6⟩; have HS6 := Lib.hid hS6; have c6 := (HS6.out.below.cell (p := ⟨g, off, none⟩) (World.block_lt_of_cell? w0 _ HLO.out)).trans HLO.out; clear hS6))
  go_wp2_with fail
  go_ret
  exact ⟨rfl, HS6.out⟩

set_option maxRecDepth 100000 in
set_option maxHeartbeats 8000000 in
theorem find_hit2_one {w0 w : World} {Y0 Y1 Y2 : SP} {p4 p5 p8 b g off M : Nat} {vp : Option Addr} {x : List UInt8} {T : Nd} {A : Nat → Prop} (hx : x ≠ []) (hS : St w0 Y0 w) (hlo : w0.cell? ⟨g, off, none⟩ = some (.string (ba x))) (hb2 : w0.cell? ⟨b, 2, none⟩ = some (.pointer vp)) (hstep : Calls Tryd.prog 48 #[.pointer (some ⟨b, 0, none⟩), .string (ba x)] w.drew (StepPost w0 M A T w.drew)) (hf1 : ∀ v5 wq, Rep w0 M A v5 T → St w0 Y0 wq → Calls Tryd.prog 32 #[.pointer v5, .slice (some ⟨g, off, none⟩) 0 0, fnM p4 p5 p8] wq (Ret w0 true Y1)) (hf2 : ∀ wq, St w0 Y1 wq → Calls Tryd.prog 32 #[.pointer vp, .slice (some ⟨g, off, none⟩) 0 0, fnM p4 p5 p8] wq (Ret w0 false Y2)) :
    Calls Tryd.prog 32 #[.pointer (some ⟨b, 0, none⟩), .slice (some ⟨g, off, none⟩) 1 1, fnM p4 p5 p8] w (Ret w0 false Y2) := by
  have HS := Lib.hid hS
  have hgl : g < w0.heap.size := World.block_lt_of_cell? w0 _ hlo
  have c0 := (hS.below.cell (p := ⟨g, off, none⟩) hgl).trans hlo
  have HLO := Lib.hid hlo
  have t0 : (ba x).toList.isEmpty = false := by rw [toList_bl, bl_ba]; cases x <;> simp_all
  have t1 : (!(ba x).toList.isEmpty) = true := by rw [t0]; rfl
  clear hx
  have HF1 := Lib.hid hf1
  have HF2 := Lib.hid hf2
  have HSTEP := Lib.hid hstep
  have HB2 := Lib.hid hb2
  clear hS hlo hgl hf1 hf2 hstep hb2
  unfold fnM at *
  go_enter Tryd.func32, Tryd.ntmps32
  go_wp2_with fail
  go_region_held3 (fun w' => w'.cell? ⟨g, off, none⟩ = some (.string (ba x))) (first | exact c0 | exact c5 | exact c6 | go_keep) (first | (go_at_call 48; refine HSTEP.out.mono ?_; rintro e w5 ⟨v5, rfl, hR5, hS5⟩; have HR5 := Lib.hid hR5; have HS5 := Lib.hid ((HS.out.drew.rebase hS5).eq (SP.one_mul _)); have c5 := (HS5.out.below.cell (p := ⟨g, off, none⟩) (World.block_lt_of_cell? w0 _ HLO.out)).trans HLO.out; clear hR5 hS5) | (go_at_call 32; refine (HF1.out _ _ HR5.out HS5.out).mono ?_; rintro e w6 ⟨rfl, hS6⟩; have HS6 := Lib.hid hS6; have c6 := (HS6.out.below.cell (p := ⟨g, off, none⟩) (World.block_lt_of_cell? w0 _ HLO.out)).trans HLO.out; clear hS6))
  go_wp2_with fail
  have d0 := (HS6.out.below.cell (p := ⟨b, 2, none⟩) (World.block_lt_of_cell? w0 _ HB2.out)).trans HB2.out
  go_region_held3 (fun w' => w'.cell? ⟨g, off, none⟩ = some (.string (ba x)) ∧ w'.cell? ⟨b, 2, none⟩ = some (.pointer vp)) (first | exact ⟨c6, d0⟩ | exact ⟨c8, d8⟩ | go_keep) ((go_at_call 32; refine (HF2.out _ HS6.out.drew).mono ?_; rintro e w8 ⟨rfl, hS8⟩; have HS8 := Lib.hid hS8; have c8 := (HS8.out.below.cell (p := ⟨g, off, none⟩) (World.block_lt_of_cell? w0 _ HLO.out)).trans HLO.out; have d8 := (HS8.out.below.cell (p := ⟨b, 2, none⟩) (World.block_lt_of_cell? w0 _ HB2.out)).trans HB2.out; clear hS8))
  go_wp2_with fail
  go_ret
  exact ⟨rfl, HS8.out⟩

set_option maxRecDepth 100000 in
set_option maxHeartbeats 8000000 in
theorem find_rest0_one {w0 w : World} {Y0 Y1 Y2 : SP} {p4 p5 p8 b g off M : Nat} {vp : Option Addr} {x : List UInt8} {T : Nd} {A : Nat → Prop} (hx : x ≠ []) (hS : St w0 Y0 w) (hlo : w0.cell? ⟨g, off, none⟩ = some (.string (ba x))) (hb2 : w0.cell? ⟨b, 2, none⟩ = some (.pointer vp)) (hb3 : w0.cell? ⟨b, 3, none⟩ = some (.pointer none)) (hstep : Calls Tryd.prog 48 #[.pointer (some ⟨b, 0, none⟩), .string (ba x)] w.drew (StepPost w0 M A T w.drew)) (hf1 : ∀ v5 wq, Rep w0 M A v5 T → St w0 Y0 wq → Calls Tryd.prog 32 #[.pointer v5, .slice (some ⟨g, off, none⟩) 0 0, fnM p4 p5 p8] wq (Ret w0 true Y1)) (hf2 : ∀ wq, St w0 Y1 wq → Calls Tryd.prog 32 #[.pointer vp, .slice (some ⟨g, off, none⟩) 0 0, fnM p4 p5 p8] wq (Ret w0 true Y2)) :
    Calls Tryd.prog 32 #[.pointer (some ⟨b, 0, none⟩), .slice (some ⟨g, off, none⟩) 1 1, fnM p4 p5 p8] w (Ret w0 true Y2) := by
  have HS := Lib.hid hS
  have hgl : g < w0.heap.size := World.block_lt_of_cell? w0 _ hlo
  have c0 := (hS.below.cell (p := ⟨g, off, none⟩) hgl).trans hlo
  have HLO := Lib.hid hlo
  have t0 : (ba x).toList.isEmpty = false := by rw [toList_bl, bl_ba]; cases x <;> simp_all
  have t1 : (!(ba x).toList.isEmpty) = true := by rw [t0]; rfl
  clear hx
  have HF1 := Lib.hid hf1
  have HF2 := Lib.hid hf2
  have HSTEP := Lib.hid hstep
  have HB2 := Lib.hid hb2
  have HB3 := Lib.hid hb3
  clear hS hlo hgl hf1 hf2 hstep hb2 hb3
  unfold fnM at *
  go_enter Tryd.func32, Tryd.ntmps32
  go_wp2_with fail
  go_region_held3 (fun w' => w'.cell? ⟨g, off, none⟩ = some (.string (ba x))) (first | exact c0 | exact c5 | exact c6 | go_keep) (first | (go_at_call 48; refine HSTEP.out.mono ?_; rintro e w5 ⟨v5, rfl, hR5, hS5⟩; have HR5 := Lib.hid hR5; have HS5 := Lib.hid ((HS.out.drew.rebase hS5).eq (SP.one_mul _)); have c5 := (HS5.out.below.cell (p := ⟨g, off, none⟩) (World.block_lt_of_cell? w0 _ HLO.out)).trans HLO.out; clear hR5 hS5) | (go_at_call 32; refine (HF1.out _ _ HR5.out HS5.out).mono ?_; rintro e w6 ⟨rfl, hS6⟩; have HS6 := Lib.hid hS6; have c6 := (HS6.out.below.cell (p := ⟨g, off, none⟩) (World.block_lt_of_cell? w0 _ HLO.out)).trans HLO.out; clear hS6))
  go_wp2_with fail
  have d0 := (HS6.out.below.cell (p := ⟨b, 2, none⟩) (World.block_lt_of_cell? w0 _ HB2.out)).trans HB2.out
  go_region_held3 (fun w' => w'.cell? ⟨g, off, none⟩ = some (.string (ba x)) ∧ w'.cell? ⟨b, 2, none⟩ = some (.pointer vp)) (first | exact ⟨c6, d0⟩ | exact ⟨c8, d8⟩ | go_keep) ((go_at_call 32; refine (HF2.out _ HS6.out.drew).mono ?_; rintro e w8 ⟨rfl, hS8⟩; have HS8 := Lib.hid hS8; have c8 := (HS8.out.below.cell (p := ⟨g, off, none⟩) (World.block_lt_of_cell? w0 _ HLO.out)).trans HLO.out; have d8 := (HS8.out.below.cell (p := ⟨b, 2, none⟩) (World.block_lt_of_cell? w0 _ HB2.out)).trans HB2.out; clear hS8))
  have e3 := (HS8.out.below.cell (p := ⟨b, 3, none⟩) (World.block_lt_of_cell? w0 _ HB3.out)).trans HB3.out
  go_wp2_with fail
  go_ret
  exact ⟨rfl, HS8.out⟩

set_option maxRecDepth 100000 in
set_option maxHeartbeats 8000000 in
theorem find_rest1_one {w0 w : World} {Y0 Y1 Y2 Y3 : SP} {p4 p5 p8 b g off M rb rn rc : Nat} {vp ro : Option Addr} {x : List UInt8} {T : Nd} {A : Nat → Prop} {b3 : Bool} (hx : x ≠ []) (hS : St w0 Y0 w) (hlo : w0.cell? ⟨g, off, none⟩ = some (.string (ba x))) (hb2 : w0.cell? ⟨b, 2, none⟩ = some (.pointer vp)) (hb3 : w0.cell? ⟨b, 3, none⟩ = some (.pointer (some ⟨rb, 0, none⟩))) (hr4 : w0.cell? ⟨rb, 4, none⟩ = some (.slice ro rn rc)) (hstep : Calls Tryd.prog 48 #[.pointer (some ⟨b, 0, none⟩), .string (ba x)] w.drew (StepPost w0 M A T w.drew)) (hf1 : ∀ v5 wq, Rep w0 M A v5 T → St w0 Y0 wq → Calls Tryd.prog 32 #[.pointer v5, .slice (some ⟨g, off, none⟩) 0 0, fnM p4 p5 p8] wq (Ret w0 true Y1)) (hf2 : ∀ wq, St w0 Y1 wq → Calls Tryd.prog 32 #[.pointer vp, .slice (some ⟨g, off, none⟩) 0 0, fnM p4 p5 p8] wq (Ret w0 true Y2)) (hy : ∀ wq, St w0 Y2 wq → Calls Tryd.prog 33 #[.slice ro rn rc, .pointer (some ⟨p4, 0, none⟩), .pointer (some ⟨p5, 0, none⟩), .pointer (some ⟨p8, 0, none⟩)] wq (Ret w0 b3 Y3)) :
    Calls Tryd.prog 32 #[.pointer (some ⟨b, 0, none⟩), .slice (some ⟨g, off, none⟩) 1 1, fnM p4 p5 p8] w (Ret w0 b3 Y3) := by
  have HS := Lib.hid hS
  have hgl : g < w0.heap.size := World.block_lt_of_cell? w0 _ hlo
  have c0 := (hS.below.cell (p := ⟨g, off, none⟩) hgl).trans hlo
  have HLO := Lib.hid hlo
  have t0 : (ba x).toList.isEmpty = false := by rw [toList_bl, bl_ba]; cases x <;> simp_all
  have t1 : (!(ba x).toList.isEmpty) = true := by rw [t0]; rfl
  clear hx
  have HF1 := Lib.hid hf1
  have HF2 := Lib.hid hf2
  have HY := Lib.hid hy
  have HSTEP := Lib.hid hstep
  have HB2 := Lib.hid hb2
  have HB3 := Lib.hid hb3
  have HR4 := Lib.hid hr4
  clear hS hlo hgl hf1 hf2 hy hstep hb2 hb3 hr4
  unfold fnM at *
  go_enter Tryd.func32, Tryd.ntmps32
  go_wp2_with fail
  go_region_held3 (fun w' => w'.cell? ⟨g, off, none⟩ = some (.string (ba x))) (first | exact c0 | exact c5 | exact c6 | go_keep) (first | (go_at_call 48; refine HSTEP.out.mono ?_; rintro e w5 ⟨v5, rfl, hR5, hS5⟩; have HR5 := Lib.hid hR5; have HS5 := Lib.hid ((HS.out.drew.rebase hS5).eq (SP.one_mul _)); have c5 := (HS5.out.below.cell (p := ⟨g, off, none⟩) (World.block_lt_of_cell? w0 _ HLO.out)).trans HLO.out; clear hR5 hS5) | (go_at_call 32; refine (HF1.out _ _ HR5.out HS5.out).mono ?_; rintro e w6 ⟨rfl, hS6⟩; have HS6 := Lib.hid hS6; have c6 := (HS6.out.below.cell (p := ⟨g, off, none⟩) (World.block_lt_of_cell? w0 _ HLO.out)).trans HLO.out; clear hS6))
  go_wp2_with fail
  have d0 := (HS6.out.below.cell (p := ⟨b, 2, none⟩) (World.block_lt_of_cell? w0 _ HB2.out)).trans HB2.out
  go_region_held3 (fun w' => w'.cell? ⟨g, off, none⟩ = some (.string (ba x)) ∧ w'.cell? ⟨b, 2, none⟩ = some (.pointer vp)) (first | exact ⟨c6, d0⟩ | exact ⟨c8, d8⟩ | go_keep) ((go_at_call 32; refine (HF2.out _ HS6.out.drew).mono ?_; rintro e w8 ⟨rfl, hS8⟩; have HS8 := Lib.hid hS8; have c8 := (HS8.out.below.cell (p := ⟨g, off, none⟩) (World.block_lt_of_cell? w0 _ HLO.out)).trans HLO.out; have d8 := (HS8.out.below.cell (p := ⟨b, 2, none⟩) (World.block_lt_of_cell? w0 _ HB2.out)).trans HB2.out; clear hS8))
  have e3 := (HS8.out.below.cell (p := ⟨b, 3, none⟩) (World.block_lt_of_cell? w0 _ HB3.out)).trans HB3.out
  have e4 := (HS8.out.below.cell (p := ⟨rb, 4, none⟩) (World.block_lt_of_cell? w0 _ HR4.out)).trans HR4.out
  go_wp2_with (go_at_call 33; refine (HY.out _ HS8.out).mono ?_; rintro e w9 ⟨rfl, hS9⟩; have HS9 := Lib.hid hS9; clear hS9)
  go_ret
  exact ⟨rfl, HS9.out⟩

set_option maxRecDepth 100000 in
set_option maxHeartbeats 8000000 in
theorem find_void0_one {w0 w : World} {Y0 : SP} {p4 p5 p8 b g off : Nat} {x : List UInt8} (hx : x = []) (hS : St w0 Y0 w) (hlo : w0.cell? ⟨g, off, none⟩ = some (.string (ba x))) (hb3 : w0.cell? ⟨b, 3, none⟩ = some (.pointer none)) :
    Calls Tryd.prog 32 #[.pointer (some ⟨b, 0, none⟩), .slice (some ⟨g, off, none⟩) 1 1, fnM p4 p5 p8] w (Ret w0 true Y0) := by
  have HS := Lib.hid hS
  have hgl : g < w0.heap.size := World.block_lt_of_cell? w0 _ hlo
  have c0 := (hS.below.cell (p := ⟨g, off, none⟩) hgl).trans hlo
  have HLO := Lib.hid hlo
  subst hx
  have t0 : (ba []).toList.isEmpty = true := by rw [toList_bl, bl_ba]; rfl
  have t1 : (!(ba []).toList.isEmpty) = false := by rw [t0]; rfl
  have HB3 := Lib.hid hb3
  clear hS hlo hgl hb3
  unfold fnM at *
  go_enter Tryd.func32, Tryd.ntmps32
  go_wp2_with fail
  go_quiet (fail)
  go_wp2_with fail
  go_quiet (fail)
  have e3 := (HS.out.below.cell (p := ⟨b, 3, none⟩) (World.block_lt_of_cell? w0 _ HB3.out)).trans HB3.out
  go_wp2_with fail
  go_ret
  exact ⟨rfl, HS.out.drewN _⟩

set_option maxRecDepth 100000 in
set_option maxHeartbeats 8000000 in
theorem find_void1_one {w0 w : World} {Y0 Y3 : SP} {p4 p5 p8 b g off rb rn rc : Nat} {ro : Option Addr} {x : List UInt8} {b3 : Bool} (hx : x = []) (hS : St w0 Y0 w) (hlo : w0.cell? ⟨g, off, none⟩ = some (.string (ba x))) (hb3 : w0.cell? ⟨b, 3, none⟩ = some (.pointer (some ⟨rb, 0, none⟩))) (hr4 : w0.cell? ⟨rb, 4, none⟩ = some (.slice ro rn rc)) (hy : ∀ wq, St w0 Y0 wq → Calls Tryd.prog 33 #[.slice ro rn rc, .pointer (some ⟨p4, 0, none⟩), .pointer (some ⟨p5, 0, none⟩), .pointer (some ⟨p8, 0, none⟩)] wq (Ret w0 b3 Y3)) :
    Calls Tryd.prog 32 #[.pointer (some ⟨b, 0, none⟩), .slice (some ⟨g, off, none⟩) 1 1, fnM p4 p5 p8] w (Ret w0 b3 Y3) := by
  have HS := Lib.hid hS
  have hgl : g < w0.heap.size := World.block_lt_of_cell? w0 _ hlo
  have c0 := (hS.below.cell (p := ⟨g, off, none⟩) hgl).trans hlo
  have HLO := Lib.hid hlo
  subst hx
  have t0 : (ba []).toList.isEmpty = true := by rw [toList_bl, bl_ba]; rfl
  have t1 : (!(ba []).toList.isEmpty) = false := by rw [t0]; rfl
  have HY := Lib.hid hy
  have HB3 := Lib.hid hb3
  have HR4 := Lib.hid hr4
  clear hS hlo hgl hy hb3 hr4
  unfold fnM at *
  go_enter Tryd.func32, Tryd.ntmps32
  go_wp2_with fail
  go_quiet (fail)
  go_wp2_with fail
  go_quiet (fail)
  have e3 := (HS.out.below.cell (p := ⟨b, 3, none⟩) (World.block_lt_of_cell? w0 _ HB3.out)).trans HB3.out
  have e4 := (HS.out.below.cell (p := ⟨rb, 4, none⟩) (World.block_lt_of_cell? w0 _ HR4.out)).trans HR4.out
  go_wp2_with (go_at_call 33; refine (HY.out _ (HS.out.drewN _)).mono ?_; rintro e w9 ⟨rfl, hS9⟩; have HS9 := Lib.hid hS9; clear hS9)
  go_ret
  exact ⟨rfl, HS9.out⟩
end Go.Proofs.YtlmoifeinglaeaaDoor

