/- The table that counts (layer 9): Len, set, New, Load, Swap. -/
import Derived.Test.YtlmoifeinglaeaaDoorTrieW
import Derived.Test.YtlmoifeinglaeaaDoorFirst
import Derived.IntWalk
import Derived.Test.YtlmoifeinglaeaaDoorRdN
namespace Go.Proofs.YtlmoifeinglaeaaDoor
open Go.RowKit
attribute [local go_sem ↓] Go.wp_at_zero Go.wp_at_succ

set_option maxRecDepth 100000 in
theorem len_any (A : Nat → Prop) (v : Option Addr) (L : List Rt) (w : World) (h : TrieAt w A v L) :
    Calls Tryd.prog 17 #[.pointer v] w fun e w' => e = .returned (.int .i64 (L.length : Nat)) ∧ w = w' := by
  rcases h with ⟨rfl, rfl⟩ | ⟨b, vr, rfl, hA, hb, hR⟩
  · go_enter Tryd.func17, Tryd.ntmps17
    go_wp2_with fail
    go_ret
    exact ⟨rfl, rfl⟩
  · have c1 : w.cell? ⟨b, 1, none⟩ = some (.int .i64 (L.length : Nat)) := by simp [World.cell?, hb]
    clear hb hR
    unfold adr
    go_enter Tryd.func17, Tryd.ntmps17
    go_wp2_with fail
    go_ret
    exact ⟨rfl, rfl⟩

/-- A holder's block. -/
def holdB (b : Nat) (tv : Option Addr) (ver : Int) (ro : Option Addr) (n rcap : Nat) : SP := SP.blk b (.cells #[.pointer tv, .int .i64 ver, .slice ro n rcap] 70)

/-- What a holder has, where it lies. -/
structure Snap (w : World) (A : Nat → Prop) (tv ro : Option Addr) (L : List Rt) : Prop where
  t : TrieAt w A tv L
  r : Cells w 3 ro L.length (rtsC L)
  rA : ∀ g off, ro = some ⟨g, off, none⟩ → A g

theorem Snap.keep {w w' : World} {A : Nat → Prop} {tv ro : Option Addr} {L : List Rt} (h : Snap w A tv ro L) (hk : Keeps A w w') : Snap w' A tv ro L :=
  ⟨h.t.keep hk, h.r.keep h.rA hk, h.rA⟩
theorem Snap.step {w w' : World} {A : Nat → Prop} {tv ro : Option Addr} {L : List Rt} {P : SP} (h : Snap w A tv ro L) (hS : St w P w') : Snap w' A tv ro L := h.keep (.of_st hS)
theorem Snap.more {w : World} {A B : Nat → Prop} {tv ro : Option Addr} {L : List Rt} (h : Snap w A tv ro L) (hAB : ∀ b, A b → b < w.heap.size → B b) : Snap w B tv ro L := by
  refine ⟨h.t.more hAB, h.r, fun g off e => ?_⟩
  obtain ⟨_, ⟨h2, _⟩ | ⟨g', off', e', hg, _⟩⟩ := h.r
  · rw [h2] at e; cases e
  · rw [e'] at e; cases e; exact hAB _ (h.rA _ _ e') hg

theorem Rts.news {w : World} {a : Addr} {l : List Rt} (h : Rts w (some a) l) : ∀ (j : Nat) (u : Value), (rtsC l)[j]? = some u → w.cell? (a.add j) = some u := by
  intro j u hu
  rcases h with rfl | ⟨g, off, e, hc⟩
  · simp [rtsC] at hu
  · cases e
    have hj : j < l.length * 3 := by rw [← rtsC_length]; exact (List.getElem?_eq_some_iff.1 hu).1
    have hk : j / 3 < l.length := by omega
    obtain ⟨h1, h2, h3⟩ := hc _ hk
    obtain ⟨g1, g2, g3⟩ := rtsC_get l _ hk
    rw [add_none]
    rcases (by omega : j = j / 3 * 3 ∨ j = j / 3 * 3 + 1 ∨ j = j / 3 * 3 + 2) with e | e | e
    · rw [e] at hu ⊢; rw [g1] at hu; rw [← hu]; exact h1
    · rw [e] at hu ⊢; rw [g2] at hu; rw [← hu, ← Nat.add_assoc]; exact h2
    · rw [e] at hu ⊢; rw [g3] at hu; rw [← hu, ← Nat.add_assoc]; exact h3
theorem rtsC_one (l : List Rt) : ∀ u ∈ rtsC l, u.oneCell' = true := by
  intro u hu
  simp only [rtsC, List.mem_flatMap] at hu
  obtain ⟨r, _, hu⟩ := hu
  simp [Rt.cells] at hu
  rcases hu with rfl | rfl | rfl <;> rfl

/-- What set takes. -/
def tabL (l : List Rt) : List Rt := if checkL l = 0 then l else []

/-- set's post. -/
def SetPost (w : World) (hb : Nat) (ver : Int) (L : List Rt) (w0 : World) (R : SP) (e : Ending) (w' : World) : Prop :=
  e = .returned (.tuple #[]) ∧ ∃ tv ro rcap, St w0 (holdB hb tv (ver + 1) ro L.length rcap * R) w' ∧ Snap w' (fun x => w.heap.size ≤ x) tv ro L ∧ Keeps (fun x => x ≠ hb) w w'

theorem set_end {w0 w w1 w2 w3 : World} {R Q P3 : SP} {hb tb n0 rcap0 rcap3 : Nat} {tv0 ro0 ro3 : Option Addr} {ver : Int} {l : List Rt} (hS : St w0 (holdB hb tv0 ver ro0 n0 rcap0 * R) w) (h1 : St w 1 w1) (h2 : St w1.drew 1 w2)
    (hT : TrieAt w2 (fun x => False ∨ w1.drew.heap.size ≤ x) (adr tb) ([] ++ l)) (h3 : St w2 P3 w3) (hR : Cells w3 3 ro3 l.length (rtsC l)) (hRA : ∀ g off, ro3 = some ⟨g, off, none⟩ → w2.heap.size ≤ g) (hB : St w0 (Q * (holdB hb tv0 ver ro0 n0 rcap0 * R)) w3) :
    SetPost w hb ver l w0 R (.returned (.tuple #[])) (((w3.setCell ⟨hb, 0, none⟩ (.pointer (adr tb))).setCell ⟨hb, 1, none⟩ (.int .i64 (ver + 1))).setCell ⟨hb, 2, none⟩ (.slice ro3 l.length rcap3)) := by
  have hlt : hb < w.heap.size := hS.lt
  have hle1 : w.heap.size ≤ w1.drew.heap.size := h1.drew.size
  have hle2 : w1.drew.heap.size ≤ w2.heap.size := h2.size
  have hnA : ¬ (fun x => w.heap.size ≤ x) hb := by simp; omega
  have hne : ¬ (fun x => x ≠ hb) hb := by simp
  refine ⟨rfl, adr tb, ro3, rcap3, ((hB.drop.setCell (i := 0) _).setCell (i := 1) _).setCell (i := 2) _, Snap.keep (Snap.keep (Snap.keep ⟨?_, hR, ?_⟩ (keeps_set hnA)) (keeps_set hnA)) (keeps_set hnA), ?_⟩
  · rw [List.nil_append] at hT
    exact (hT.more fun b hb _ => by
      rcases hb with hb | hb
      · exact hb.elim
      · exact Nat.le_trans hle1 hb).step h3
  · intro g off e
    have := hRA g off e
    show w.heap.size ≤ g
    omega
  · intro x o hx ho
    have k3 : w3.heap[x]? = some o := by
      have a1 := Keeps.of_st (A := fun _ => True) h1.drew x o trivial ho
      have a2 := Keeps.of_st (A := fun _ => True) h2 x o trivial a1
      exact Keeps.of_st (A := fun _ => True) h3 x o trivial a2
    exact keeps_set (A := fun x => x ≠ hb) hne x o hx (keeps_set (A := fun x => x ≠ hb) hne x o hx (keeps_set (A := fun x => x ≠ hb) hne x o hx k3))

set_option maxRecDepth 100000 in
set_option maxHeartbeats 8000000 in
theorem set_some (w0 : World) (R : SP) (hb : Nat) (tv0 ro0 : Option Addr) (ver : Int) (n0 rcap0 : Nat) (a : Addr) (cap : Nat) (l : List Rt) (w : World) (hS : St w0 (holdB hb tv0 ver ro0 n0 rcap0 * R) w) (hg : HG w)
    (hv : 0 ≤ ver) (hv2 : ver ≤ 1000000) (hl : Rts w (some a) l) (hn : l.length ≤ 100000) (hbd : ∀ r ∈ l, r.p.length ≤ 300000 ∧ r.m.length ≤ 1000000) (hchk : checkL l = 0) :
    Calls Tryd.prog 28 #[.pointer (adr hb), .slice (some a) l.length cap] w (SetPost w hb ver l w0 R) := by
  obtain ⟨i0, hi, hz0, hz1, hz2⟩ := info_parts info_route
  have hck := check_any (some a) cap l w hg hl (by omega) hbd
  rw [hchk] at hck
  have hwith := fun (wq : World) (P : SP) (h : St w P wq) => with_any (fun _ => False) none [] (some a) cap l wq (.inl ⟨rfl, rfl⟩) (hl.step h) (by simpa using hn) (fun r hr => (hbd r hr).1)
  have HW := Lib.hid hwith
  have HS := Lib.hid hS
  have HL := Lib.hid hl
  clear hwith hS hl hchk hbd
  unfold adr
  go_enter Tryd.func28, Tryd.ntmps28
  go_wp2_with (go_at_call 38; refine hck.mono ?_; rintro e w1 ⟨rfl, hS1⟩; have HS1 := Lib.hid hS1; clear hS1)
  have hA := (HS.out.rebase HS1.out).eq (SP.one_mul _)
  have j1 : w1.cell? ⟨hb, 1, none⟩ = some (.int .i64 ver) := hA.cell 1
  have HA := Lib.hid hA
  have hwr : IntKind.i64.wrap (ver + 1) = ver + 1 := IntWalk.i64_in _ (by omega)
  clear hA hck
  go_region_law (first | (refine step_append_slo rfl (.const (.slice none 0 0)) (.tmp 18) 30 rfl i0 (.agg #[.string ByteArray.empty, .string ByteArray.empty, .string ByteArray.empty]) 48 Tryd.underlying30 hi hz0 hz1 hz2 rfl (by decide) (((St.refl w2).eq (slo_nil 39 3).symm).eq (SP.mul_one _).symm) rfl a l.length cap (rtsC l) (by first | (simp [Act.eval]; done) | simp [Act.eval, Act.put]) (rtsC_length l) (Rts.news HL2.out) (rtsC_one l) (by omega) (by unfold maxLen; omega) ?_; intro ro3 rcap3 w3 hw3; have hB := (HB2.out.rebase hw3); have m1 : w3.cell? ⟨hb, 1, none⟩ = some (.int .i64 ver) := (hB.eq (SP.mul_left_comm _ _ _)).cell 1; have m0 := (hB.eq (SP.mul_left_comm _ _ _)).cell 0; have m2 := (hB.eq (SP.mul_left_comm _ _ _)).cell 2; have mf := fun i => (hB.eq (SP.mul_left_comm _ _ _)).free i; simp at m0 m2; have HW3 := Lib.hid hw3; have HB3 := Lib.hid hB; clear hw3 hB) | (go_simp; go_at_call 19; refine (HW.out _ _ HS1.out.drew).mono ?_; rintro e w2 ⟨tb, rfl, hT, hS2⟩; have hB := (HA.out.drew.rebase hS2).eq (SP.one_mul _); have k1 : w2.cell? ⟨hb, 1, none⟩ = some (.int .i64 ver) := hB.cell 1; have HB2 := Lib.hid hB; have HT := Lib.hid hT; have HS2 := Lib.hid hS2; have HL2 := Lib.hid ((HL.out.step HS1.out.drew).step hS2); unfold adr; clear hT hS2 hB))
  all_goals
    clear hwr
    go_wp2_with fail
    go_end0
    have hw3 := HW3.out
    rw [Nat.zero_add, List.nil_append] at hw3
    exact set_end HS.out HS1.out HS2.out HT.out hw3 hw3.cells (fun g off e => by
      rcases hw3.slo_open with ⟨h9, _⟩ | ⟨g', off', cur, e', _, _, hS'⟩
      · rw [h9] at e; cases e
      · rw [e'] at e; cases e; exact hS'.ge) HB3.out

set_option maxRecDepth 100000 in
set_option maxHeartbeats 8000000 in
theorem set_none (w0 : World) (R : SP) (hb : Nat) (tv0 ro0 : Option Addr) (ver : Int) (n0 rcap0 : Nat) (ao : Option Addr) (cap : Nat) (l : List Rt) (w : World) (hS : St w0 (holdB hb tv0 ver ro0 n0 rcap0 * R) w) (hg : HG w)
    (hv : 0 ≤ ver) (hv2 : ver ≤ 1000000) (hl : Rts w ao l) (hn : l.length ≤ 100000) (hbd : ∀ r ∈ l, r.p.length ≤ 300000 ∧ r.m.length ≤ 1000000) (hchk : checkL l ≠ 0) :
    Calls Tryd.prog 28 #[.pointer (adr hb), .slice ao l.length cap] w (SetPost w hb ver [] w0 R) := by
  obtain ⟨i0, hi, hz0, hz1, hz2⟩ := info_parts info_route
  have hck := check_any ao cap l w hg hl (by omega) hbd
  have hwith := fun (wq : World) => with_any (fun _ => False) none [] none 0 [] wq (.inl ⟨rfl, rfl⟩) (.inl rfl) (by simp) (by simp)
  have t0 : ((checkL l : Int) == 0) = false := by rw [beq_eq_false_iff_ne]; omega
  have t1 : ((checkL l : Int) != 0) = true := by rw [bne_iff_ne]; omega
  rw [List.length_nil] at hwith
  have HW := Lib.hid hwith
  have HS := Lib.hid hS
  clear hwith hS hl hchk hbd
  unfold adr
  go_enter Tryd.func28, Tryd.ntmps28
  go_wp2_with (go_at_call 38; refine hck.mono ?_; rintro e w1 ⟨rfl, hS1⟩; have HS1 := Lib.hid hS1; clear hS1)
  have hA := (HS.out.rebase HS1.out).eq (SP.one_mul _)
  have j1 : w1.cell? ⟨hb, 1, none⟩ = some (.int .i64 ver) := hA.cell 1
  have HA := Lib.hid hA
  have hwr : IntKind.i64.wrap (ver + 1) = ver + 1 := IntWalk.i64_in _ (by omega)
  clear hA hck
  go_region_law (first | (refine step_append_none rfl (.const (.slice none 0 0)) (.tmp 18) 30 rfl i0 Tryd.underlying30 hi rfl (by first | (simp [Act.eval]; done) | simp [Act.eval, Act.put]) ?_) | (go_simp; go_at_call 19; refine (HW.out _).mono ?_; rintro e w2 ⟨tb, rfl, hT, hS2⟩; have hB := (HA.out.drew.rebase hS2).eq (SP.one_mul _); have k1 : w2.cell? ⟨hb, 1, none⟩ = some (.int .i64 ver) := hB.cell 1; have m0 := hB.cell 0; have m2 := hB.cell 2; have mf := fun i => hB.free i; simp at m0 m2; have HB2 := Lib.hid hB; have HT := Lib.hid hT; have HS2 := Lib.hid hS2; unfold adr; clear hT hS2 hB))
  all_goals
    clear hwr
    go_wp2_with fail
    go_end0
    exact set_end (l := []) HS.out HS1.out HS2.out HT.out (St.refl w2) ⟨rfl, .inl ⟨rfl, rfl⟩⟩ (fun g off e => by cases e) (HB2.out.eq (SP.one_mul _).symm)
set_option maxRecDepth 100000 in
set_option maxHeartbeats 8000000 in
theorem set_nil (w0 : World) (R : SP) (hb : Nat) (tv0 ro0 : Option Addr) (ver : Int) (n0 rcap0 : Nat) (w : World) (hS : St w0 (holdB hb tv0 ver ro0 n0 rcap0 * R) w) (hg : HG w)
    (hv : 0 ≤ ver) (hv2 : ver ≤ 1000000) :
    Calls Tryd.prog 28 #[.pointer (adr hb), .slice none 0 0] w (SetPost w hb ver [] w0 R) := by
  obtain ⟨i0, hi, hz0, hz1, hz2⟩ := info_parts info_route
  have hck := check_any none 0 [] w hg (.inl rfl) (by simp) (by simp)
  have hc0 : checkL [] = 0 := by decide +kernel
  rw [hc0, List.length_nil] at hck
  clear hc0
  have hwith := fun (wq : World) => with_any (fun _ => False) none [] none 0 [] wq (.inl ⟨rfl, rfl⟩) (.inl rfl) (by simp) (by simp)
  rw [List.length_nil] at hwith
  have HW := Lib.hid hwith
  have HS := Lib.hid hS
  clear hwith hS
  unfold adr
  go_enter Tryd.func28, Tryd.ntmps28
  go_wp2_with (go_at_call 38; refine hck.mono ?_; rintro e w1 ⟨rfl, hS1⟩; have HS1 := Lib.hid hS1; clear hS1)
  have hA := (HS.out.rebase HS1.out).eq (SP.one_mul _)
  have j1 : w1.cell? ⟨hb, 1, none⟩ = some (.int .i64 ver) := hA.cell 1
  have HA := Lib.hid hA
  have hwr : IntKind.i64.wrap (ver + 1) = ver + 1 := IntWalk.i64_in _ (by omega)
  clear hA hck
  go_region_law (first | (refine step_append_none rfl (.const (.slice none 0 0)) (.tmp 18) 30 rfl i0 Tryd.underlying30 hi rfl (by first | (simp [Act.eval]; done) | simp [Act.eval, Act.put]) ?_) | (go_simp; go_at_call 19; refine (HW.out _).mono ?_; rintro e w2 ⟨tb, rfl, hT, hS2⟩; have hB := (HA.out.drew.rebase hS2).eq (SP.one_mul _); have k1 : w2.cell? ⟨hb, 1, none⟩ = some (.int .i64 ver) := hB.cell 1; have m0 := hB.cell 0; have m2 := hB.cell 2; have mf := fun i => hB.free i; simp at m0 m2; have HB2 := Lib.hid hB; have HT := Lib.hid hT; have HS2 := Lib.hid hS2; unfold adr; clear hT hS2 hB))
  all_goals
    clear hwr
    go_wp2_with fail
    go_end0
    exact set_end (l := []) HS.out HS1.out HS2.out HT.out (St.refl w2) ⟨rfl, .inl ⟨rfl, rfl⟩⟩ (fun g off e => by cases e) (HB2.out.eq (SP.one_mul _).symm)

theorem set_any (w0 : World) (R : SP) (hb : Nat) (tv0 ro0 : Option Addr) (ver : Int) (n0 rcap0 : Nat) (ao : Option Addr) (cap : Nat) (l : List Rt) (w : World) (hS : St w0 (holdB hb tv0 ver ro0 n0 rcap0 * R) w) (hg : HG w)
    (hv : 0 ≤ ver) (hv2 : ver ≤ 1000000) (hl : Rts w ao l) (hn : l.length ≤ 100000) (hbd : ∀ r ∈ l, r.p.length ≤ 300000 ∧ r.m.length ≤ 1000000) (hcap : ao = none → cap = 0) :
    Calls Tryd.prog 28 #[.pointer (adr hb), .slice ao l.length cap] w (SetPost w hb ver (tabL l) w0 R) := by
  unfold tabL
  by_cases hc : checkL l = 0
  · rw [if_pos hc]
    cases ao with
    | some a => exact set_some w0 R hb tv0 ro0 ver n0 rcap0 a cap l w hS hg hv hv2 hl hn hbd hc
    | none =>
      obtain rfl := hcap rfl
      rcases hl with rfl | ⟨g, off, e, _⟩
      · exact set_nil w0 R hb tv0 ro0 ver n0 rcap0 w hS hg hv hv2
      · cases e
  · rw [if_neg hc]
    exact set_none w0 R hb tv0 ro0 ver n0 rcap0 ao cap l w hS hg hv hv2 hl hn hbd hc
end Go.Proofs.YtlmoifeinglaeaaDoor
