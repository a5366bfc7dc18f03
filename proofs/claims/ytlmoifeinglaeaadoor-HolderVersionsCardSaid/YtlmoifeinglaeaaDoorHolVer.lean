/- HolderVersions (layer 9): the walk. -/
import Derived.Test.YtlmoifeinglaeaaDoorHolFit
import Derived.Test.YtlmoifeinglaeaaDoorMapBool
import Derived.Test.YtlmoifeinglaeaaDoorInvC
import Derived.Deep.RegionWith
namespace Go.Proofs.YtlmoifeinglaeaaDoor
open Go.RowKit
attribute [local go_sem ↓] Go.wp_at_zero Go.wp_at_succ

def goodR : Rt := ⟨[71, 69, 84], [47, 97], [103, 101, 116]⟩
def goodS : List UInt8 := [71, 69, 84, 32, 47, 97, 32, 103, 101, 116]
def badS : List UInt8 := [71, 69, 84, 32, 47, 97, 32, 110, 111, 98, 111, 100, 121]
theorem parse_good : parseL goodS = ([goodR], 0) := by decide +kernel
theorem parse_bad : parseL badS = ([], 1) := by decide +kernel

/-- How many tables have been taken. -/
def cntT (l : List Bool) : Nat := (l.filter id).length
theorem cntT_snoc (l : List Bool) (b : Bool) : cntT (l ++ [b]) = cntT l + if b then 1 else 0 := by
  unfold cntT
  rw [List.filter_append]
  cases b <;> simp
theorem cntT_le (l : List Bool) : cntT l ≤ l.length := List.length_filter_le _ _
def tabN (n : Nat) : List Rt := if n = 0 then [] else [goodR]

/-- The loop at its head. -/
def VerAt (w1 : World) (l : List Bool) (gh : Nat) (n i : Value) (wr : World) : Prop :=
  ∃ (k : Nat) (tv ro : Option Addr) (rcap : Nat), gh = l.length + 1 - k ∧ k ≤ l.length ∧ n = .int .i64 (1 + cntT (l.take k) : Nat) ∧ i = .int .i64 k ∧
    St w1 (holdB w1.heap.size tv (1 + cntT (l.take k) : Nat) ro (tabN (cntT (l.take k))).length rcap * 1) wr ∧ Snap wr (fun x => w1.heap.size < x) tv ro (tabN (cntT (l.take k)))

theorem VerAt.good {w1 w4 : World} {l : List Bool} {k c rcap : Nat} {tv ro : Option Addr} (hS : St w1 (holdB w1.heap.size tv (((1 + c : Nat) : Int) + 1) ro [goodR].length rcap * 1) w4) (hN : Snap w4 (fun x => w1.heap.size < x) tv ro [goodR])
    (hsn : cntT (l.take (k + 1)) = c + if true = true then 1 else 0) (hk : k < l.length) : VerAt w1 l (l.length + 1 - (k + 1)) (.int .i64 (1 + (c : Int) + 1)) (.int .i64 ((k : Int) + 1)) w4 := by
  simp only [if_true] at hsn
  have ht : tabN (c + 1) = [goodR] := by simp [tabN]
  refine ⟨k + 1, tv, ro, rcap, rfl, by omega, by rw [hsn]; go_num, by go_num, ?_, ?_⟩
  · rw [hsn, ht, show ((1 + (c + 1) : Nat) : Int) = ((1 + c : Nat) : Int) + 1 by omega]; exact hS
  · rw [hsn, ht]; exact hN
theorem VerAt.bad {w1 w4 : World} {l : List Bool} {k c rcap : Nat} {tv ro : Option Addr} (hS : St w1 (holdB w1.heap.size tv ((1 + c : Nat) : Int) ro (tabN c).length rcap * 1) w4) (hN : Snap w4 (fun x => w1.heap.size < x) tv ro (tabN c))
    (hsn : cntT (l.take (k + 1)) = c + if false = true then 1 else 0) (hk : k < l.length) : VerAt w1 l (l.length + 1 - (k + 1)) (.int .i64 ((1 + c : Nat) : Int)) (.int .i64 ((k : Int) + 1)) w4 := by
  simp only [Bool.false_eq_true, if_false, Nat.add_zero] at hsn
  refine ⟨k + 1, tv, ro, rcap, rfl, by omega, by rw [hsn], by go_num, ?_, ?_⟩
  · rw [hsn]; exact hS
  · rw [hsn]; exact hN

theorem lg_self {kv : List (Bool × Value)} {k : Bool} {v : Value} (h : lg kv k = none) : lg (kv ++ [(k, v)]) k = some v := by
  unfold lg at h ⊢
  rw [List.find?_append]
  cases e : kv.find? (fun x => decide (k = x.1)) with
  | some x => rw [e] at h; cases h
  | none => simp
theorem lg_more {kv : List (Bool × Value)} {k j : Bool} {v : Value} (h : j ≠ k) : lg (kv ++ [(k, v)]) j = lg kv j := by
  unfold lg
  rw [List.find?_append]
  cases e : kv.find? (fun x => decide (j = x.1)) with
  | some x => simp
  | none => simp [h]

/-- The last region's state. -/
def Inv18 (hb c : Nat) (tv : Option Addr) (sn : Value) (wr : World) (f : Nat → Bool) (a : Act) (w : World) : Prop :=
  Slots 61 [(3, .pointer (some ⟨hb, 0, none⟩)), (4, .int .i64 (1 + c : Nat))]
    [(0, 51, .pointer (some ⟨hb, 0, none⟩)), (1, 52, sn), (2, 53, .pointer tv), (3, 54, .int .i64 ((tabN c).length : Nat)), (8, 57, .int .i64 (1 + c : Nat)), (9, 58, .bool (decide (0 < c))), (10, 59, .int .i64 ((tabN c).length : Nat)), (11, 60, .bool true), (12, 2, .bool true)] f a ∧
  St wr 1 w ∧ ((f 5 = true → f 4 = true) ∧ (f 6 = true → f 4 = true) ∧ (f 7 = true → f 4 = true ∧ f 5 = true ∧ f 6 = true)) ∧ (f 4 = true → ∃ mb kv, a.tmps.getD 55 undef = .map (some mb) ∧ (f 7 = true → a.tmps.getD 56 undef = .map (some mb)) ∧ St wr (mg Value.bool mb kv * 1) w ∧
    lg kv true = (if f 5 = true then some (.int .i64 1) else none) ∧ lg kv false = (if f 6 = true then some (.int .i64 0) else none))

theorem Inv18.const {hb c : Nat} {tv : Option Addr} {sn : Value} {wr w w' : World} {f : Nat → Bool} {a : Act} (h : Inv18 hb c tv sn wr f a w) (hS : St w 1 w') (i d : Nat) (v : Value) (hd : d < 61) (h55 : d ≠ 55 ∧ d ≠ 56 ∧ d ≠ 3 ∧ d ≠ 4) (hi : i ≠ 4 ∧ i ≠ 5 ∧ i ≠ 6 ∧ i ≠ 7)
    (h2 : ∀ x ∈ ([(0, 51, .pointer (some ⟨hb, 0, none⟩)), (1, 52, sn), (2, 53, .pointer tv), (3, 54, .int .i64 ((tabN c).length : Nat)), (8, 57, .int .i64 (1 + c : Nat)), (9, 58, .bool (decide (0 < c))), (10, 59, .int .i64 ((tabN c).length : Nat)), (11, 60, .bool true), (12, 2, .bool true)] : List (Nat × Nat × Value)), (x.1 = i ∧ x.2 = (d, v)) ∨ (x.1 ≠ i ∧ x.2.1 ≠ d)) :
    Inv18 hb c tv sn wr (fun j => if j = i then true else f j) (a.put (some d) v) w' := by
  obtain ⟨h1, h3, hD, h4⟩ := h
  have hs : d < a.tmps.size := by rw [h1.size]; exact hd
  refine ⟨h1.put_const i d v hd (by simp; exact ⟨fun e => h55.2.2.1 e.symm, fun e => h55.2.2.2 e.symm⟩) h2, (h3.rebase hS).nil, ?_, fun hf => ?_⟩
  all_goals
    have e4 : ¬ 4 = i := fun e => hi.1 e.symm
    have e5 : ¬ 5 = i := fun e => hi.2.1 e.symm
    have e6 : ¬ 6 = i := fun e => hi.2.2.1 e.symm
    have e7 : ¬ 7 = i := fun e => hi.2.2.2 e.symm
  · simpa only [e4, e5, e6, e7, if_false] using hD
  simp only [e4, e5, e6, e7, if_false] at hf ⊢
  obtain ⟨mb, kv, g1, g2, g3, g4, g5⟩ := h4 hf
  refine ⟨mb, kv, ?_, fun h7 => ?_, (g3.rebase hS).eq (SP.one_mul _), g4, g5⟩
  · rw [put_getD hs, if_neg (fun e => h55.1 e.symm)]; exact g1
  · rw [put_getD hs, if_neg (fun e => h55.2.1 e.symm)]; exact g2 h7

set_option maxRecDepth 100000 in
set_option maxHeartbeats 8000000 in
theorem versions_any (ao : Option Addr) (cap : Nat) (l : List Bool) (w : World) (hg : HG w) (hl : ∀ j (h : j < l.length), ∃ g off, ao = some ⟨g, off, none⟩ ∧ w.cell? ⟨g, off + j, none⟩ = some (.bool l[j])) :
    Calls Tryd.prog 3 #[.slice ao l.length cap] w fun e w' => e = .returned (.bool true) ∧ St w 1 w' := by
  have HF := Lib.hid (fit9_any w hg)
  have HG0 := Lib.hid hg
  have HL := Lib.hid hl
  clear hl hg
  by_cases hbig : 100 < l.length
  · have t0 : decide ((100 : Int) < (l.length : Int)) = true := by simp; omega
    go_enter Tryd.func3, Tryd.ntmps3
    go_wp2_with (go_at_call 13; refine HF.out.mono ?_; rintro e w1 ⟨rfl, hS1⟩; have HS1 := Lib.hid hS1; clear hS1)
    go_ret
    exact ⟨rfl, HS1.out⟩
  · have t0 : decide ((100 : Int) < (l.length : Int)) = false := by simp; omega
    have hn : l.length ≤ 100 := by omega
    clear hbig
    go_enter Tryd.func3, Tryd.ntmps3
    go_wp2_with (go_at_call 13; refine HF.out.mono ?_; rintro e w1 ⟨rfl, hS1⟩; have HS1 := Lib.hid hS1; clear hS1)
    have hnew := new_any none 0 [] w1 (HG0.out.step HS1.out) (.inl rfl) (by simp) (by simp) (fun _ => rfl)
    rw [show tabL [] = [] from by decide +kernel, List.length_nil] at hnew
    refine hnew.mono ?_
    rintro e w2 ⟨rfl, tv, ro, rcap, hS2, hN2⟩
    have HAT := Lib.hid (show VerAt w1 l (l.length + 1) (.int .i64 1) (.int .i64 0) w2 from ⟨0, tv, ro, rcap, rfl, Nat.zero_le _, rfl, rfl, hS2, hN2⟩)
    unfold adr
    clear hS2 hN2 hnew
    go_wp2_with fail
    go_loopg [4, 18] (l.length + 1) (fun gh n i wr => VerAt w1 l gh n i wr)
    case atStart => exact HAT.out
    case round =>
      obtain ⟨k, tv, ro, rcap, rfl, hk, rfl, rfl, hS, hN⟩ := hrel
      have HSR := Lib.hid hS
      have HNR := Lib.hid hN
      have HGR := Lib.hid ((HG0.out.step HS1.out).step hS)
      have hc9 := cntT_le (l.take k)
      have hc8 : (l.take k).length ≤ k := List.length_take_le _ _
      clear hS hN HAT
      by_cases hlt : k < l.length
      · obtain ⟨g, off, rfl, hc⟩ := HL.out k hlt
        have hcr := ((HS1.out.rebase HSR.out |>.nil) |> St.below).cell (p := ⟨g, off + k, none⟩) (World.block_lt_of_cell? w _ hc) |>.trans hc
        have hsn := cntT_snoc (l.take k) l[k]
        have htk : l.take k ++ [l[k]] = l.take (k + 1) := by simp
        rw [htk] at hsn
        have HSN := Lib.hid hsn
        clear hsn htk hc
        generalize cntT (l.take k) = c at *
        cases hb : l[k] with
        | true =>
          rw [hb] at hcr HSN
          clear hb
          have hlI : (k : Int) < (l.length : Int) := by omega
          have hsw := swap_any w1 _ _ _ _ _ _ _ goodS wr HSR.out HGR.out (by omega) (by omega) (by decide)
          have hsy := hsw.mono fun e w' h => (by unfold SwapPost at h; rw [parse_good] at h; simpa using h : SwapYes wr w1.heap.size (1 + c : Nat) [goodR] w1 1 e w')
          rw [show ba goodS = ⟨#[71, 69, 84, 32, 47, 97, 32, 103, 101, 116]⟩ from rfl] at hsy
          clear hsw
          have sv := snap_ver
          go_wp2_with fail
          refine hsy.mono ?_
          rintro e w3 ⟨rfl, tv3, ro3, rcap3, hS3, hN3, hK3⟩
          have HS3 := Lib.hid hS3
          have HN3 := Lib.hid hN3
          clear hS3 hN3 hK3 hsy
          go_wp2_with fail
          refine (load_any _ _ _ _ _ _ _ _ _ HS3.out).mono ?_
          rintro e w4 ⟨rfl, hS4⟩
          unfold snapV
          have HS4 := Lib.hid hS4
          clear hS4
          go_wp2_with fail
          go_roundg (l.length + 1 - (k + 1))
          case measure => omega
          case rel =>
            have hlt9 := HSR.out.lt
            exact VerAt.good ((HS3.out.rebase HS4.out).eq (SP.one_mul _)) ((HN3.out.more fun b hb _ => Nat.lt_of_lt_of_le hlt9 hb).step HS4.out) HSN.out hlt
        | false =>
          rw [hb] at hcr HSN
          clear hb
          have hlI : (k : Int) < (l.length : Int) := by omega
          have hsw := swap_any w1 _ _ _ _ _ _ _ badS wr HSR.out HGR.out (by omega) (by omega) (by decide)
          have hsy := hsw.mono fun e w' h => (by unfold SwapPost at h; rw [parse_bad] at h; simpa using h : e = .returned (.tuple #[.int .i64 0, .int .i64 1]) ∧ St wr 1 w')
          rw [show ba badS = ⟨#[71, 69, 84, 32, 47, 97, 32, 110, 111, 98, 111, 100, 121]⟩ from rfl] at hsy
          clear hsw
          have sv := snap_ver
          go_wp2_with fail
          refine hsy.mono ?_
          rintro e w3 ⟨rfl, hS3⟩
          have HS3 := Lib.hid hS3
          clear hS3 hsy
          go_wp2_with fail
          refine (load_any _ _ _ _ _ _ _ _ _ ((HSR.out.rebase HS3.out).eq (SP.one_mul _))).mono ?_
          rintro e w4 ⟨rfl, hS4⟩
          unfold snapV
          have HS4 := Lib.hid hS4
          clear hS4
          go_wp2_with fail
          go_roundg (l.length + 1 - (k + 1))
          case measure => omega
          case rel => exact VerAt.bad ((((HSR.out.rebase HS3.out).eq (SP.one_mul _)).rebase HS4.out).eq (SP.one_mul _)) ((HNR.out.step HS3.out).step HS4.out) HSN.out hlt
      · obtain rfl : k = l.length := by omega
        go_wp2_with fail
        refine wp_region_inv (by kernel_rfl) (Inv18 w1.heap.size (cntT (l.take l.length)) tv (snapV tv (1 + cntT (l.take l.length) : Nat) ro (tabN (cntT (l.take l.length))).length rcap) wr) ?_ ?_ (acyc_spec (by kernel_rfl)) ?_
        · exact ⟨⟨rfl, rfl, by simp, (fun x _ h => by cases h)⟩, (St.refl wr).drew, ⟨(fun h => by cases h), (fun h => by cases h), (fun h => by cases h)⟩, (fun h => by cases h)⟩
        · intro f a w9 i o hI ho hf haft
          have hi : i < 13 := (Array.getElem?_eq_some_iff.1 ho).1
          have hld := load_any w1 1 w1.heap.size tv ro _ _ rcap w9 ((HSR.out.rebase hI.2.1).eq (SP.one_mul _))
          have hln := len_any _ tv _ w9 (HNR.out.t.step hI.2.1)
          generalize cntT (l.take l.length) = c at *
          have g3 := hI.1.fxd (3, .pointer (some ⟨w1.heap.size, 0, none⟩)) (by simp)
          have g4 := hI.1.fxd (4, .int .i64 (1 + c : Nat)) (by simp)
          have gc := hI.1.csd
          simp only [List.forall_mem_cons] at gc
          obtain ⟨c0, c1, c2, c3, c8, c9, c10, c11, c12, -⟩ := gc
          simp only at g3 g4 c0 c1 c2 c3 c8 c9 c10 c11 c12
          obtain rfl | rfl | rfl | rfl | rfl | rfl | rfl | rfl | rfl | rfl | rfl | rfl | rfl : i = 0 ∨ i = 1 ∨ i = 2 ∨ i = 3 ∨ i = 4 ∨ i = 5 ∨ i = 6 ∨ i = 7 ∨ i = 8 ∨ i = 9 ∨ i = 10 ∨ i = 11 ∨ i = 12 := by omega
          · skip
            have ho' := ho
            injection ho' with ho'
            subst ho'
            refine op_val ho rfl (v := .pointer (some ⟨w1.heap.size, 0, none⟩)) (w' := w9) ?_ (hI.const (St.refl _) 0 51 _ (by omega) (by omega) (by omega) (by simp))
            simp [execOp, Act.eval, g3]
          · skip
            have ho' := ho
            injection ho' with ho'
            subst ho'
            have k0 := c0 (haft ⟨0, .data⟩ (by simp) rfl)
            refine op_call ho rfl (fn := 16) (args := #[.pointer (some ⟨w1.heap.size, 0, none⟩)]) (w' := w9) ?_ (hld.mono ?_)
            · simp [execOp, Act.eval, k0, resolve, invoke, go_sem]
            · rintro e w' ⟨rfl, hS⟩
              exact ⟨_, rfl, hI.const hS 1 52 _ (by omega) (by omega) (by omega) (by simp)⟩
          · skip
            have ho' := ho
            injection ho' with ho'
            subst ho'
            have k1 := c1 (haft ⟨1, .data⟩ (by simp) rfl)
            have st := fun v => snap_trie tv v ro (tabN c).length rcap w9
            refine op_val ho rfl (v := .pointer tv) (w' := w9) ?_ (hI.const (St.refl _) 2 53 _ (by omega) (by omega) (by omega) (by simp))
            simp [execOp, Act.eval, k1, snapV, st, Result.andThen]
          · skip
            have ho' := ho
            injection ho' with ho'
            subst ho'
            have k2 := c2 (haft ⟨2, .data⟩ (by simp) rfl)
            refine op_call ho rfl (fn := 17) (args := #[.pointer tv]) (w' := w9) ?_ (hln.mono ?_)
            · simp [execOp, Act.eval, k2, resolve, invoke, go_sem]
            · rintro e w' ⟨rfl, rfl⟩
              exact ⟨_, rfl, hI.const (St.refl _) 3 54 _ (by omega) (by omega) (by omega) (by simp)⟩
          · skip
            have ho' := ho
            injection ho' with ho'
            subst ho'
            refine op_val ho rfl (v := .map (some w9.heap.size)) (w' := w9.alloc (.map #[] 0)) ?_ ?_
            · simp [execOp, run_makeMap, Result.andThen]
            · have hs : 55 < a.tmps.size := by rw [hI.1.size]; omega
              have n5 : lg ([] : List (Bool × Value)) true = if (if 5 = 4 then true else f 5) = true then some (.int .i64 1) else none := by
                cases h5 : f 5 with
                | true => rw [hI.2.2.1.1 h5] at hf; cases hf
                | false => simp [lg]
              have n6 : lg ([] : List (Bool × Value)) false = if (if 6 = 4 then true else f 6) = true then some (.int .i64 0) else none := by
                cases h6 : f 6 with
                | true => rw [hI.2.2.1.2.1 h6] at hf; cases hf
                | false => simp [lg]
              exact ⟨hI.1.put_other 4 55 _ (by omega) (by simp) (by simp), (hI.2.1.alloc _).nil, ⟨fun _ => rfl, fun _ => rfl, fun h7 => ⟨rfl, (hI.2.2.1.2.2 h7).2⟩⟩, fun _ => ⟨w9.heap.size, [], (put_getD hs).trans (if_pos rfl), (fun h7 => by rw [(hI.2.2.1.2.2 h7).1] at hf; cases hf), hI.2.1.mg_made Value.bool, n5, n6⟩⟩
          · skip
            have ho' := ho
            injection ho' with ho'
            subst ho'
            obtain ⟨mb, kv, m1, m2, m3, m4, m5⟩ := hI.2.2.2 (haft ⟨4, .data⟩ (by simp) rfl)
            obtain ⟨w8, hrun, hS8⟩ := run_update_mg (P := Tryd.prog) m3 Tryd.underlying35 (keyLaw_bool Tryd.underlying4) true (.int .i64 1) (by rw [m4, hf]; rfl)
            refine op_skip ho rfl (w' := w8) ?_ ?_
            · simp [execOp, Act.eval, m1, hrun, Result.andThen]
            · exact ⟨hI.1.put_none 5 _ (by simp), hS8.nil, ⟨fun _ => (haft ⟨4, .data⟩ (by simp) rfl), fun h6 => hI.2.2.1.2.1 h6, fun h7 => ⟨(haft ⟨4, .data⟩ (by simp) rfl), rfl, (hI.2.2.1.2.2 h7).2.2⟩⟩, fun _ => ⟨mb, _, m1, fun h7 => m2 (by simpa using h7), hS8, lg_self (by rw [m4, hf]; rfl), (lg_more (by decide)).trans m5⟩⟩
          · skip
            have ho' := ho
            injection ho' with ho'
            subst ho'
            obtain ⟨mb, kv, m1, m2, m3, m4, m5⟩ := hI.2.2.2 (haft ⟨4, .data⟩ (by simp) rfl)
            obtain ⟨w8, hrun, hS8⟩ := run_update_mg (P := Tryd.prog) m3 Tryd.underlying35 (keyLaw_bool Tryd.underlying4) false (.int .i64 0) (by rw [m5, hf]; rfl)
            refine op_skip ho rfl (w' := w8) ?_ ?_
            · simp [execOp, Act.eval, m1, hrun, Result.andThen]
            · exact ⟨hI.1.put_none 6 _ (by simp), hS8.nil, ⟨fun h5 => hI.2.2.1.1 h5, fun _ => (haft ⟨4, .data⟩ (by simp) rfl), fun h7 => ⟨(haft ⟨4, .data⟩ (by simp) rfl), (hI.2.2.1.2.2 h7).2.1, rfl⟩⟩, fun _ => ⟨mb, _, m1, fun h7 => m2 (by simpa using h7), hS8, (lg_more (by decide)).trans m4, lg_self (by rw [m5, hf]; rfl)⟩⟩
          · skip
            have ho' := ho
            injection ho' with ho'
            subst ho'
            obtain ⟨mb, kv, m1, m2, m3, m4, m5⟩ := hI.2.2.2 (haft ⟨4, .data⟩ (by simp) rfl)
            have hs : 56 < a.tmps.size := by rw [hI.1.size]; omega
            refine op_val ho rfl (v := .map (some mb)) (w' := w9) ?_ ?_
            · simp [execOp, Act.eval, m1]
            · exact ⟨hI.1.put_other 7 56 _ (by omega) (by simp) (by simp), hI.2.1, ⟨hI.2.2.1.1, hI.2.2.1.2.1, fun _ => ⟨(haft ⟨4, .data⟩ (by simp) rfl), (haft ⟨5, .data⟩ (by simp) rfl), (haft ⟨6, .data⟩ (by simp) rfl)⟩⟩, fun _ => ⟨mb, kv, ((put_getD hs).trans (if_neg (by omega))).trans m1, fun _ => (put_getD hs).trans (if_pos rfl), m3, m4, m5⟩⟩
          · skip
            have ho' := ho
            injection ho' with ho'
            subst ho'
            refine op_val ho rfl (v := .int .i64 (1 + c : Nat)) (w' := w9) ?_ (hI.const (St.refl _) 8 57 _ (by omega) (by omega) (by omega) (by simp))
            simp [execOp, Act.eval, g4]
          · skip
            have ho' := ho
            injection ho' with ho'
            subst ho'
            have k8 := c8 (haft ⟨8, .data⟩ (by simp) rfl)
            refine op_val ho rfl (v := .bool (decide (0 < c))) (w' := w9) ?_ (hI.const (St.refl _) 9 58 _ (by omega) (by omega) (by omega) (by simp))
            simp [execOp, Act.eval, k8, go_sem]
            omega
          · skip
            have ho' := ho
            injection ho' with ho'
            subst ho'
            obtain ⟨mb, kv, m1, m2, m3, m4, m5⟩ := hI.2.2.2 (hI.2.2.1.2.2 (haft ⟨7, .data⟩ (by simp) rfl)).1
            have k9 := c9 (haft ⟨9, .data⟩ (by simp) rfl)
            have k7 := m2 (haft ⟨7, .data⟩ (by simp) rfl)
            have hrun := run_lookup_mg (P := Tryd.prog) m3 Tryd.underlying35 (keyLaw_bool Tryd.underlying4) (z := .int .i64 0) (by kernel_rfl) (decide (0 < c))
            have hval : (lg kv (decide (0 < c))).getD (.int .i64 0) = .int .i64 ((tabN c).length : Nat) := by
              obtain ⟨-, h5, h6⟩ := hI.2.2.1.2.2 (haft ⟨7, .data⟩ (by simp) rfl)
              rw [h5] at m4
              rw [h6] at m5
              by_cases hc : 0 < c
              · rw [decide_eq_true hc, m4]
                have : ¬ c = 0 := by omega
                simp [tabN, this]
              · rw [decide_eq_false hc, m5]
                have : c = 0 := by omega
                simp [tabN, this]
            rw [hval] at hrun
            refine op_val ho rfl (v := .int .i64 ((tabN c).length : Nat)) (w' := w9) ?_ (hI.const (St.refl _) 10 59 _ (by omega) (by omega) (by omega) (by simp))
            simp [execOp, Act.eval, k7, k9, hrun, Result.andThen]
          · skip
            have ho' := ho
            injection ho' with ho'
            subst ho'
            have k3 := c3 (haft ⟨3, .data⟩ (by simp) rfl)
            have k10 := c10 (haft ⟨10, .data⟩ (by simp) rfl)
            refine op_val ho rfl (v := .bool true) (w' := w9) ?_ (hI.const (St.refl _) 11 60 _ (by omega) (by omega) (by omega) (by simp))
            simp [execOp, Act.eval, k3, k10, go_sem]
          · skip
            have ho' := ho
            injection ho' with ho'
            subst ho'
            have k11 := c11 (haft ⟨11, .data⟩ (by simp) rfl)
            refine op_val ho rfl (v := .bool true) (w' := w9) ?_ (hI.const (St.refl _) 12 2 _ (by omega) (by omega) (by omega) (by simp))
            simp [execOp, Act.eval, k11]
        · intro f a w9 hI hf
          have h2 := hI.1.csd (12, 2, .bool true) (by simp) (hf 12 (by decide))
          simp only [Array.getD_eq_getD_getElem?] at h2
          have hd := hI.1.defers
          go_wp2_with fail
          exact bodyPost_ret (v := .bool true) (by simp [results, Tryd.results3, h2, go_sem]) hd ⟨rfl, ((HS1.out.rebase HSR.out).nil.rebase hI.2.1).nil⟩
end Go.Proofs.YtlmoifeinglaeaaDoor
