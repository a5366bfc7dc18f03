/- The table that counts (layer 9): New, Load, Swap. -/
import Derived.Test.YtlmoifeinglaeaaDoorHold
namespace Go.Proofs.YtlmoifeinglaeaaDoor
open Go.RowKit

theorem linesR_mem : ∀ (ls : List (List UInt8)) (l : List Rt), linesR ls = some l → ∀ r ∈ l, ∃ x ∈ ls, r.m ∈ lineL x ∧ r.p ∈ lineL x ∧ r.h ∈ lineL x
  | [], l, h, r, hr => by simp [linesR] at h; subst h; simp at hr
  | x :: ls, l, h, r, hr => by
    unfold linesR at h
    cases e : lineR (lineL x) with
    | none => rw [e] at h; cases h
    | some a =>
      rw [e] at h
      cases e2 : linesR ls with
      | none => simp only [e2] at h; cases h
      | some b =>
        simp only [e2, Option.map_some, Option.some.injEq] at h
        subst h
        rw [List.mem_append] at hr
        rcases hr with hr | hr
        · refine ⟨x, List.mem_cons_self, ?_⟩
          generalize lineL x = y at *
          unfold lineR at e
          split at e
          · cases e; simp at hr
          · cases e; simp at hr; subst hr; simp
          · cases e
        · obtain ⟨y, hy, h9⟩ := linesR_mem ls b e2 r hr
          exact ⟨y, List.mem_cons_of_mem _ hy, h9⟩

theorem parseL_ok {s : List UInt8} (h : (parseL s).2 = 0) : checkL (parseL s).1 = 0 := by
  unfold parseL at h ⊢
  split
  · rename_i e; rw [e] at h; cases h
  · rename_i l e
    rw [e] at h
    simp only at h ⊢
    split
    · assumption
    · rename_i hc; rw [if_neg hc] at h; exact absurd h hc

theorem parseL_bd {s : List UInt8} : ∀ r ∈ (parseL s).1, r.p.length ≤ s.length ∧ r.m.length ≤ s.length ∧ r.h.length ≤ s.length := by
  intro r hr
  unfold parseL at hr
  split at hr
  · simp at hr
  · rename_i l e
    split at hr
    · obtain ⟨x, hx, h1, h2, h3⟩ := linesR_mem _ _ e r hr
      have hxl := wordsL_mem 10 s x hx
      have key : ∀ y ∈ lineL x, y.length ≤ s.length := fun y hy => Nat.le_trans (wordsL_mem 32 x y (List.mem_filter.1 hy).1) hxl
      exact ⟨key _ h2, key _ h1, key _ h3⟩
    · simp at hr

/-- A holder that was made. -/
def NewPost (w : World) (L : List Rt) (e : Ending) (w' : World) : Prop :=
  e = .returned (.pointer (adr w.heap.size)) ∧ ∃ tv ro rcap, St w (holdB w.heap.size tv 1 ro L.length rcap * 1) w' ∧ Snap w' (fun x => w.heap.size < x) tv ro L

set_option maxRecDepth 100000 in
set_option maxHeartbeats 2000000 in
theorem new_any (ao : Option Addr) (cap : Nat) (l : List Rt) (w : World) (hg : HG w) (hl : Rts w ao l) (hn : l.length ≤ 100000) (hbd : ∀ r ∈ l, r.p.length ≤ 300000 ∧ r.m.length ≤ 1000000) (hcap : ao = none → cap = 0) :
    Calls Tryd.prog 14 #[.slice ao l.length cap] w (NewPost w (tabL l)) := by
  have hS := (St.refl w).alloc (.cells #[.pointer none, .int .i64 0, .slice none 0 0] 70)
  have hset := set_any w 1 w.heap.size none none 0 0 0 ao cap l _ hS (hg.step hS) (by omega) (by omega) (hl.step hS) hn hbd hcap
  have hz : (w.alloc (.cells #[.pointer none, .int .i64 0, .slice none 0 0] 70)).heap.size = w.heap.size + 1 := by simp
  have HZ := Lib.hid hz
  clear hS hl hbd hz
  unfold adr at hset
  go_enter Tryd.func14, Tryd.ntmps14
  go_wp2_with (go_at_call 28; refine hset.mono ?_; rintro e w1 ⟨rfl, tv, ro, rcap, hS1, hN1, -⟩; have HS1 := Lib.hid hS1; have HN1 := Lib.hid hN1; clear hS1 hN1)
  go_ret
  refine ⟨rfl, tv, ro, rcap, HS1.out, HN1.out.more fun b hb _ => ?_⟩
  have h9 := HZ.out
  have h8 : (w.alloc (.cells #[.pointer none, .int .i64 0, .slice none 0 0] 70)).heap.size ≤ b := hb
  show w.heap.size < b
  omega

/-- What Load gives. -/
def snapV (tv : Option Addr) (ver : Int) (ro : Option Addr) (n rcap : Nat) : Value := .agg #[.pointer tv, .int .i64 ver, .slice ro n rcap]

set_option maxRecDepth 100000 in
set_option maxHeartbeats 2000000 in
theorem load_any (w0 : World) (R : SP) (hb : Nat) (tv ro : Option Addr) (ver : Int) (n rcap : Nat) (w : World) (hS : St w0 (holdB hb tv ver ro n rcap * R) w) :
    Calls Tryd.prog 16 #[.pointer (adr hb)] w fun e w' => e = .returned (snapV tv ver ro n rcap) ∧ St w 1 w' := by
  have hlt : hb < w.heap.size := hS.lt
  have c0 : w.cell? ⟨hb, 0, none⟩ = some (.pointer tv) := hS.cell 0
  have c1 : w.cell? ⟨hb, 1, none⟩ = some (.int .i64 ver) := hS.cell 1
  have c2 : w.cell? ⟨hb, 2, none⟩ = some (.slice ro n rcap) := hS.cell 2
  clear hS
  unfold adr snapV
  go_enter Tryd.func16, Tryd.ntmps16
  go_wp2_with fail
  exact bodyPost_ret (v := .agg #[.pointer tv, .int .i64 ver, .slice ro n rcap]) (by simp [results, Tryd.results16, go_sem]) rfl ⟨rfl, ((St.refl w).alloc _).nil⟩

/-- What Swap leaves. -/
def SwapYes (w : World) (hb : Nat) (ver : Int) (L : List Rt) (w0 : World) (R : SP) (e : Ending) (w' : World) : Prop :=
  e = .returned (.tuple #[.int .i64 (ver + 1), .int .i64 0]) ∧ ∃ tv ro rcap, St w0 (holdB hb tv (ver + 1) ro L.length rcap * R) w' ∧ Snap w' (fun x => w.heap.size ≤ x) tv ro L ∧ Keeps (fun x => x ≠ hb) w w'
def SwapPost (w : World) (hb : Nat) (ver : Int) (s : List UInt8) (w0 : World) (R : SP) (e : Ending) (w' : World) : Prop :=
  if (parseL s).2 = 0 then SwapYes w hb ver (parseL s).1 w0 R e w'
  else e = .returned (.tuple #[.int .i64 0, .int .i64 ((parseL s).2 : Nat)]) ∧ St w 1 w'

set_option maxRecDepth 100000 in
set_option maxHeartbeats 2000000 in
theorem swap_any (w0 : World) (R : SP) (hb : Nat) (tv0 ro0 : Option Addr) (ver : Int) (n0 rcap0 : Nat) (s : List UInt8) (w : World) (hS : St w0 (holdB hb tv0 ver ro0 n0 rcap0 * R) w) (hg : HG w)
    (hv : 0 ≤ ver) (hv2 : ver ≤ 1000000) (hs : s.length ≤ 300000) :
    Calls Tryd.prog 15 #[.pointer (adr hb), .string (ba s)] w (SwapPost w hb ver s w0 R) := by
  have hpar := parse_any (ba s) w hg (by rw [size_ba]; exact hs)
  rw [bl_ba] at hpar
  have hbd := parseL_bd (s := s)
  by_cases hok : (parseL s).2 = 0
  · suffices h : Calls Tryd.prog 15 #[.pointer (adr hb), .string (ba s)] w (SwapYes w hb ver (parseL s).1 w0 R) from h.mono fun e w' k => by unfold SwapPost; rw [if_pos hok]; exact k
    rw [hok] at hpar
    have hchk := parseL_ok hok
    generalize (parseL s).1 = l at *
    have h24 := (checkL_zero hchk).2.1
    have hset := fun (w1 : World) (ao : Option Addr) (cap : Nat) (h1 : St w (slo 39 3 ao l.length cap (rtsC l)) w1) =>
      set_any w0 (slo 39 3 ao l.length cap (rtsC l) * R) hb tv0 ro0 ver n0 rcap0 ao cap l w1 ((hS.rebase h1).eq (SP.mul_left_comm _ _ _)) (hg.step h1) hv hv2 ((h1.eq (SP.mul_one _).symm).rts) (by omega) (fun r hr => by have := hbd r hr; omega) (fun e => by subst e; exact (h1.eq (SP.mul_one _).symm).slo_none)
    have HSET := Lib.hid hset
    have hsz := hS.lt
    have hT : tabL l = l := by unfold tabL; rw [if_pos hchk]
    have HT := Lib.hid hT
    clear hS hchk hset hok hbd hT
    unfold adr
    go_enter Tryd.func15, Tryd.ntmps15
    go_wp2_with (first | (go_at_call 27; refine hpar.mono ?_; rintro e w1 ⟨ao, cap, rfl, hS1⟩; have HS1 := Lib.hid hS1; clear hS1) | (go_at_call 28; refine (HSET.out _ _ _ HS1.out).mono ?_; rintro e w2 ⟨rfl, tv, ro, rcap, hS2, hN2, hK2⟩; have j1 : w2.cell? ⟨hb, 1, none⟩ = some (.int .i64 (ver + 1)) := hS2.cell 1; have HS2 := Lib.hid hS2; have HN2 := Lib.hid hN2; have HK2 := Lib.hid hK2; clear hS2 hN2 hK2))
    go_ret2
    have hS2 := HS2.out
    have hN2 := HN2.out
    rw [HT.out] at hS2 hN2
    refine ⟨rfl, tv, ro, rcap, (hS2.eq (SP.mul_left_comm _ _ _)).drop, hN2.more fun b hb _ => ?_, fun x o hx ho => HK2.out x o hx (Keeps.of_st (A := fun _ => True) HS1.out x o trivial ho)⟩
    exact Nat.le_trans HS1.out.size hb
  · suffices h : Calls Tryd.prog 15 #[.pointer (adr hb), .string (ba s)] w (fun e w' => e = .returned (.tuple #[.int .i64 0, .int .i64 ((parseL s).2 : Nat)]) ∧ St w 1 w') from h.mono fun e w' k => by unfold SwapPost; rw [if_neg hok]; exact k
    have t0 : (((parseL s).2 : Int) == 0) = false := by rw [beq_eq_false_iff_ne]; omega
    have t1 : (((parseL s).2 : Int) != 0) = true := by rw [bne_iff_ne]; omega
    clear hok hbd
    generalize (parseL s).2 = er at *
    generalize (parseL s).1 = l at *
    unfold adr
    go_enter Tryd.func15, Tryd.ntmps15
    go_wp2_with (go_at_call 27; refine hpar.mono ?_; rintro e w1 ⟨ao, cap, rfl, hS1⟩; have HS1 := Lib.hid hS1; clear hS1)
    go_ret2
    exact ⟨rfl, HS1.out.nil⟩
end Go.Proofs.YtlmoifeinglaeaaDoor
