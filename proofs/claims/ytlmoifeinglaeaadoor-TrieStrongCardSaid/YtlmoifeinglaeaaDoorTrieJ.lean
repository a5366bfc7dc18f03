/- Trees of routes (layer 8): put: its closure; at a pattern's end. -/
import Derived.Test.YtlmoifeinglaeaaDoorTrieI
import Derived.Test.YtlmoifeinglaeaaDoorParseA
namespace Go.Proofs.YtlmoifeinglaeaaDoor
open Go.RowKit
attribute [local go_sem ↓] Go.wp_at_zero Go.wp_at_succ

theorem SP.rot3 (a b c x : SP) : a * (b * (c * x)) = b * (c * (a * x)) := by ac_rfl

theorem keeps_old {w w1 w6 : World} {A : Nat → Prop} {P Q : SP} (h1 : St w P w1) (h6 : St w Q w6) : Keeps (fun x => A x ∧ x < w.heap.size) w1 w6 := fun x o hx ho => by
  rw [h6.old hx.2, ← h1.old hx.2]; exact ho

/-- A node of a call's own, its routes in an array of its own, shut. -/
theorem made_end {w w1 w6 : World} {M : Nat} {A : Nat → Prop} {t : Nd} {b ecap rcap : Nat} {eo vn vp vr ro ro' : Option Addr} {l : List Ed} {R : SP} (r : Rt)
    (hO : Own w M (fun x => A x ∧ x < w.heap.size) t b eo ecap vn vp vr ro l w1)
    (h : St w (SP.blk b (.cells #[.slice eo l.length ecap, .pointer vn, .pointer vp, .pointer vr, .slice ro' (t.en.length + 1) rcap] 92) * (slo 107 2 eo l.length ecap (edC l) * (slo 39 3 ro' (t.en.length + 1) rcap (rtsC t.en ++ r.cells) * R))) w6) :
    Made w (M + 1) A (putT [] r t) (.returned (.pointer (adr b))) w6 := by
  have hb := h.blk
  have hs := h.drop
  have hr := hs.drop
  have hk := keeps_old (A := A) hO.st h
  have hm : ∀ {v : Option Addr} {u : Nd}, Rep w1 M (fun x => A x ∧ x < w.heap.size) v u → Rep w6 (M + 1) (fun x => A x ∨ w.heap.size ≤ x) v u := fun k => (k.keep hk).more (Nat.le_succ M) fun b hb _ => .inl hb.1
  have ec : rtsC (t.en ++ [r]) = rtsC t.en ++ r.cells := by simp [rtsC]
  have hM2 := hO.hM2
  unfold putT
  refine ⟨b, rfl, .node (en := t.en ++ [r]) (ro := ro') (rcap := rcap) (by rw [List.length_append]; exact hb) (.inr h.ge) hO.he hs.cells (fun g off e => ?_) (fun e => by subst e; exact hs.slo_none) (Nat.le_succ_of_le hO.hM) (by rw [List.length_append]; exact Nat.succ_le_succ hM2) hO.hx (fun t ht => hm (hO.hl t ht)) (hm hO.hn) (hm hO.hp) (hm hO.hr)
    (by rw [ec, List.length_append]; exact hr.cells) (fun g off e => ?_) (by rw [List.length_append]; exact hr.slo_len.2.1) (fun e => by subst e; exact hr.slo_none) hr.slo_len.2.2, h.nil⟩
  · rcases hs.slo_open with ⟨h2, _⟩ | ⟨g', off', cur, e', _, _, hS'⟩
    · rw [h2] at e; cases e
    · rw [e'] at e; cases e; exact .inr hS'.ge
  · rcases hr.slo_open with ⟨h2, _⟩ | ⟨g', off', cur, e', _, _, hS'⟩
    · rw [h2] at e; cases e
    · rw [e'] at e; cases e; exact .inr hS'.ge

theorem Made.base {w w0 w' : World} {M : Nat} {A : Nat → Prop} {t : Nd} {e : Ending} {P : SP} (h : Made w0 M A t e w') (hS : St w P w0) : Made w M A t e w' := by
  obtain ⟨b, h1, h2, h3⟩ := h
  exact ⟨b, h1, h2.more (Nat.le_refl _) fun y hy _ => by
    rcases hy with hy | hy
    · exact .inl hy
    · exact .inr (Nat.le_trans hS.size hy), (hS.rebase h3).nil⟩

set_option maxRecDepth 100000 in
set_option maxHeartbeats 4000000 in
theorem put_nil (M : Nat) (hMM : M + 1 ≤ 1000000) (r : Rt) (A : Nat → Prop) (w : World) (v : Option Addr) (t : Nd) (ao : Option Addr) (cap : Nat) (h : Rep w M A v t) :
    Calls Tryd.prog 31 #[.pointer v, .slice ao 0 cap, .agg #[.string (ba r.m), .string (ba r.p), .string (ba r.h)]] w (Made w (M + 1) A (putT [] r t)) := by
  obtain ⟨i0, hi, hz0, hz1, hz2⟩ := info_parts info_route
  have hS0 := ((St.refl w).alloc (.cells #[.slice ao 0 cap] 37)).alloc (.cells #[.string (ba r.m), .string (ba r.p), .string (ba r.h)] 39)
  have hcop := copied_any M (by omega) A v t _ (h.step hS0)
  have HS0 := Lib.hid hS0
  clear h hS0
  go_enter Tryd.func31, Tryd.ntmps31
  go_wp2_with (go_at_call 45; refine hcop.mono ?_; rintro e w1 ⟨b, eo, ecap, vn, vp, vr, ro, l, rfl, hO⟩; have HO := Lib.hid hO; unfold adr; clear hO)
  have hX := (HS0.out.rebase HO.out.st)
  have c4 : w1.cell? ⟨b, 4, none⟩ = some (.slice ro t.en.length t.en.length) := HO.out.st.cell 4
  have g4 : (w1.alloc (.cells #[.string (ba r.m), .string (ba r.p), .string (ba r.h)] 39)).cell? ⟨b, 4, none⟩ = some (.slice ro t.en.length t.en.length) := ((HO.out.st.alloc _).eq (SP.mul_left_comm _ _ _)).cell 4
  have hbox := fun i => (hX.eq (SP.mul_left_comm _ _ _)).cell i
  simp at hbox
  have x0 := hbox 0
  have x1 := hbox 1
  have x2 := hbox 2
  have hR := HO.out.hen.step ((St.refl w1).alloc (.cells #[.string (ba r.m), .string (ba r.p), .string (ba r.h)] 39)).drew
  have hST := (HO.out.st.alloc (.cells #[.string (ba r.m), .string (ba r.p), .string (ba r.h)] 39)).drew.eq (SP.rot3 _ _ _ _)
  have HR := Lib.hid hR
  have HST := Lib.hid hST
  have hM2 := HO.out.hM2
  clear hX hbox hR hST hcop
  generalize w.heap.size + 1 = eb at *
  generalize w.heap.size = ea at *
  go_region_law (refine step_append_full rfl (.tmp 20) (.tmp 22) 30 rfl i0 (.agg #[.string ByteArray.empty, .string ByteArray.empty, .string ByteArray.empty]) 48 Tryd.underlying30 hi hz0 hz1 hz2 rfl (by decide) HR.out HST.out (by simp [Act.eval]) ⟨w1.heap.size, 0, none⟩ 1 1 [.string (ba r.m), .string (ba r.p), .string (ba r.h)] (by omega) (by simp [Act.eval]) rfl (cells_three w1 _ _ _ _) (by omega) (by unfold maxLen; omega) ?_; intro ao' cap' w6 hw6; have HX6 := Lib.hid hw6; clear hw6; have f4 := (HX6.out.eq (SP.mul_left_comm _ _ _)).cell 4; have ff := (HX6.out.eq (SP.mul_left_comm _ _ _)).free 4; simp at f4)
  all_goals
    go_wp2_with fail
    go_ret
    exact (made_end r HO.out ((HX6.out.eq (SP.rot3 _ _ _ _)).setCell (i := 4) (.slice ao' (t.en.length + 1) cap'))).base HS0.out

/-- put's contract at a list of segments. -/
def PutOk (M : Nat) (r : Rt) (l : List (List UInt8)) : Prop :=
  ∀ (A : Nat → Prop) (w : World) v t ao cap, Rep w M A v t → Strs w ao l → l.length ≤ cap → cap ≤ maxLen →
    Calls Tryd.prog 31 #[.pointer v, .slice ao l.length cap, .agg #[.string (ba r.m), .string (ba r.p), .string (ba r.h)]] w (Made w (M + 1) A (putT l r t))

set_option maxRecDepth 100000 in
set_option maxHeartbeats 4000000 in
theorem put1_any (M : Nat) (r : Rt) (x : List UInt8) (l : List (List UInt8)) (ih : PutOk M r l) (W : World) {p4 p5 : Nat} {ao : Option Addr} {cap : Nat} {T4 T5 : TypeId}
    (h4 : W.heap[p4]? = some (.cells #[.slice ao (l.length + 1) cap] T4 (0, 0))) (h5 : W.heap[p5]? = some (.cells #[.string (ba r.m), .string (ba r.p), .string (ba r.h)] T5 (0, 0)))
    (hstr : Strs W ao (x :: l)) (hcap : l.length + 1 ≤ cap) (hmax : cap ≤ maxLen) : ThenOk M (adr p4) (adr p5) (putT l r) W := by
  intro A w1 P hS v t hR
  have k4 : w1.heap[p4]? = some (.cells #[.slice ao (l.length + 1) cap] T4 (0, 0)) := by rw [hS.old (Array.getElem?_eq_some_iff.1 h4).1]; exact h4
  have k5 : w1.heap[p5]? = some (.cells #[.string (ba r.m), .string (ba r.p), .string (ba r.h)] T5 (0, 0)) := by rw [hS.old (Array.getElem?_eq_some_iff.1 h5).1]; exact h5
  have c4 : w1.cell? ⟨p4, 0, none⟩ = some (.slice ao (l.length + 1) cap) := by simp [World.cell?, k4]
  have c50 : w1.cell? ⟨p5, 0, none⟩ = some (.string (ba r.m)) := by simp [World.cell?, k5]
  have c51 : w1.cell? ⟨p5, 1, none⟩ = some (.string (ba r.p)) := by simp [World.cell?, k5]
  have c52 : w1.cell? ⟨p5, 2, none⟩ = some (.string (ba r.h)) := by simp [World.cell?, k5]
  have l4 : p4 < w1.heap.size := (Array.getElem?_eq_some_iff.1 k4).1
  have l5 : p5 < w1.heap.size := (Array.getElem?_eq_some_iff.1 k5).1
  have hs1 : Strs w1.drew (cutAt ao cap 1 1) l := (hstr.drop (k := 1) (by simp) (by simpa using hcap)).step (hS.drew)
  have hcall := ih A w1.drew v t (cutAt ao cap 1 1) (cap - 1) (hR.step (St.refl w1).drew) hs1 (by omega) (by omega)
  unfold cutAt at hcall
  have H4 := Lib.hid k4
  have H5 := Lib.hid k5
  have hcapI : ((l.length : Int) + 1) ≤ cap := by omega
  have h0I : (0 : Int) ≤ (l.length : Int) := by omega
  unfold maxLen at hmax
  clear k4 k5 h4 h5 hstr ih hs1
  unfold adr
  by_cases e1 : cap = 1
  · rw [if_pos e1] at hcall
    subst e1
    have e0 : l.length = 0 := by omega
    rw [e0] at hcall c4 hcapI
    go_enter Tryd.func46, Tryd.ntmps46
    go_wp2_with fail
    go_region_held3 (fun w' => w'.cell? ⟨p4, 0, none⟩ = some (.slice ao 1 1) ∧ w'.cell? ⟨p5, 0, none⟩ = some (.string (ba r.m)) ∧ w'.cell? ⟨p5, 1, none⟩ = some (.string (ba r.p)) ∧ w'.cell? ⟨p5, 2, none⟩ = some (.string (ba r.h))) (first | exact ⟨c4, c50, c51, c52⟩ | exact ⟨d4, d50, d51, d52⟩ | go_keep) ((go_at_call 31; refine hcall.mono ?_; rintro e w2 ⟨b2, rfl, hR2, hS2⟩; have HR2 := Lib.hid hR2; have d4 := (hS2.below.cell (p := ⟨p4, 0, none⟩) l4).trans c4; have d50 := (hS2.below.cell (p := ⟨p5, 0, none⟩) l5).trans c50; have d51 := (hS2.below.cell (p := ⟨p5, 1, none⟩) l5).trans c51; have d52 := (hS2.below.cell (p := ⟨p5, 2, none⟩) l5).trans c52; have HS2 := Lib.hid hS2; clear hR2 hS2))
    go_wp2_with fail
    go_ret
    exact Made.base ⟨b2, rfl, HR2.out, HS2.out⟩ (St.refl w1).drew
  · rw [if_neg e1] at hcall
    have i1 : (1 : Int) ≤ (l.length : Int) + 1 := by omega
    have i2 : (1 : Int) ≤ (cap : Int) := by omega
    have i3 : 1 ≤ l.length + 1 := by omega
    have i4 : (((l.length + 1 : Nat) : Int) - 1).toNat = l.length := by omega
    have i5 : ((l.length : Int) + 1 - 1).toNat = l.length := by omega
    have i6 : (1 : Int) ≤ ((l.length + 1 : Nat) : Int) := by omega
    go_enter Tryd.func46, Tryd.ntmps46
    go_wp2_with fail
    go_region_held3 (fun w' => w'.cell? ⟨p4, 0, none⟩ = some (.slice ao (l.length + 1) cap) ∧ w'.cell? ⟨p5, 0, none⟩ = some (.string (ba r.m)) ∧ w'.cell? ⟨p5, 1, none⟩ = some (.string (ba r.p)) ∧ w'.cell? ⟨p5, 2, none⟩ = some (.string (ba r.h))) (first | exact ⟨c4, c50, c51, c52⟩ | exact ⟨d4, d50, d51, d52⟩ | go_keep) ((go_at_call 31; refine hcall.mono ?_; rintro e w2 ⟨b2, rfl, hR2, hS2⟩; have HR2 := Lib.hid hR2; have d4 := (hS2.below.cell (p := ⟨p4, 0, none⟩) l4).trans c4; have d50 := (hS2.below.cell (p := ⟨p5, 0, none⟩) l5).trans c50; have d51 := (hS2.below.cell (p := ⟨p5, 1, none⟩) l5).trans c51; have d52 := (hS2.below.cell (p := ⟨p5, 2, none⟩) l5).trans c52; have HS2 := Lib.hid hS2; clear hR2 hS2))
    go_wp2_with fail
    go_ret
    exact Made.base ⟨b2, rfl, HR2.out, HS2.out⟩ (St.refl w1).drew
end Go.Proofs.YtlmoifeinglaeaaDoor
