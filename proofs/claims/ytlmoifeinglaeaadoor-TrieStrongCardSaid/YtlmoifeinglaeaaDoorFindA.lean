/- Trees of routes (layer 8): find, what is asked and what it leaves; nothing; at a path's end. -/
import Derived.Test.YtlmoifeinglaeaaDoorYield
import Derived.Test.YtlmoifeinglaeaaDoorStepA
namespace Go.Proofs.YtlmoifeinglaeaaDoor
open Go.RowKit
attribute [local go_sem ↓] Go.wp_at_zero Go.wp_at_succ

/-- The closure as a value. -/
def fnM (p4 p5 p8 : Nat) : Value := .func (.func 33) #[] #[.pointer (some ⟨p4, 0, none⟩), .pointer (some ⟨p5, 0, none⟩), .pointer (some ⟨p8, 0, none⟩)]

section
variable {b : Nat} {m : List UInt8} {l acc : List (List UInt8)} {R1 R2 : List Rt}
theorem stateOf_none (h : (R1.find? fun r => decide (r.m = m)) = none) : stateOf b m l acc R1 = mOpen b (addAll acc R1) := by unfold stateOf; rw [h]
theorem stateOf_app_none (h : (R1.find? fun r => decide (r.m = m)) = none) : stateOf b m l acc (R1 ++ R2) = stateOf b m l (addAll acc R1) R2 := by
  unfold stateOf
  rw [List.find?_append, h, Option.none_or]
  cases R2.find? fun r => decide (r.m = m) with
  | none => simp [addAll]
  | some r => rfl
theorem stateOf_app_some {r : Rt} (h : (R1.find? fun r => decide (r.m = m)) = some r) : stateOf b m l acc (R1 ++ R2) = stateOf b m l acc R1 := by
  unfold stateOf
  rw [List.find?_append, h, Option.some_or]
end

theorem Cells.rts {w : World} {ro : Option Addr} {R : List Rt} (h : Cells w 3 ro R.length (rtsC R)) : Rts w ro R := by
  obtain ⟨h1, ⟨_, h2⟩ | ⟨g, off, e, hg, hc⟩⟩ := h
  · exact .inl (List.eq_nil_of_length_eq_zero h2)
  · refine .inr ⟨g, off, e, fun j hj => ?_⟩
    obtain ⟨g1, g2, g3⟩ := rtsC_get R j hj
    exact ⟨by rw [hc _ (by omega)]; exact g1, by rw [Nat.add_assoc, hc _ (by omega)]; exact g2, by rw [Nat.add_assoc, hc _ (by omega)]; exact g3⟩

/-- What all calls of one Match share. -/
structure FindCtx where
  F : SP
  w0 : World
  M : Nat
  A : Nat → Prop
  p4 : Nat
  p5 : Nat
  p8 : Nat
  m : List UInt8
  ao : Option Addr
  cap : Nat
  l0 : List (List UInt8)
structure FindCtx.Ok (c : FindCtx) : Prop where
  hM : c.M ≤ 1000000
  hl : Strs c.w0 c.ao c.l0
  hcap : c.l0.length ≤ c.cap
  ht : total c.l0 ≤ 100000

/-- find's contract. -/
def FindOk (c : FindCtx) (l : List (List UInt8)) : Prop :=
  ∀ t v lo lcap acc w, Rep c.w0 c.M c.A v t → Ful t → Rdx t → Strs c.w0 lo l → l.length ≤ lcap → lcap ≤ maxLen → St c.w0 (boxes c.F c.p4 c.p5 c.m c.ao c.l0.length c.cap (mOpen c.p8 acc)) w →
    acc.length + (visT l t).flatten.length ≤ 100000 → (∀ r ∈ (visT l t).flatten, Fits c.l0 r) →
    Calls Tryd.prog 32 #[.pointer v, .slice lo l.length lcap, fnM c.p4 c.p5 c.p8] w (YieldPost c.F c.w0 c.p4 c.p5 c.p8 c.m c.ao c.cap c.l0 acc (visT l t).flatten)

theorem visT_nil (l : List (List UInt8)) : visT l .nil = [] := by cases l <;> rfl

set_option maxRecDepth 100000 in
set_option maxHeartbeats 1000000 in
theorem find_none (c : FindCtx) (l : List (List UInt8)) (lo : Option Addr) (lcap : Nat) (acc : List (List UInt8)) (w : World) (hS : St c.w0 (boxes c.F c.p4 c.p5 c.m c.ao c.l0.length c.cap (mOpen c.p8 acc)) w) :
    Calls Tryd.prog 32 #[.pointer none, .slice lo l.length lcap, fnM c.p4 c.p5 c.p8] w (YieldPost c.F c.w0 c.p4 c.p5 c.p8 c.m c.ao c.cap c.l0 acc (visT l .nil).flatten) := by
  rw [visT_nil]
  have HS := Lib.hid hS
  clear hS
  unfold fnM
  go_enter Tryd.func32, Tryd.ntmps32
  go_wp2_with fail
  go_ret
  exact ⟨rfl, HS.out⟩

set_option maxRecDepth 100000 in
set_option maxHeartbeats 2000000 in
theorem find_end (c : FindCtx) (hc : c.Ok) : FindOk c [] := by
  intro t v lo lcap acc w hR hF hX hL hle hmax hS hn hfit
  cases hR with
  | nil => exact find_none c [] lo lcap acc w hS
  | @node b eo ro vn vp vr ecap rcap l es nx pm rs en hb hA he hce hcA hcap hM hM2 hx hl hn' hp hr hen henA hrc hrn hrM =>
    have c4 : w.cell? ⟨b, 4, none⟩ = some (.slice ro en.length rcap) := by
      have hb' : w.heap[b]? = _ := (hS.old (Array.getElem?_eq_some_iff.1 hb).1).trans hb
      simp [World.cell?, hb']
    have HS := Lib.hid hS
    have hrts := hen.rts
    have hM1 := hc.hM
    clear hb he hce hcA hcap hx hl hn' hp hr hen henA hrc hrn hrM hF hX
    by_cases he : en = []
    · subst he
      have hv : (visT [] (.node es nx pm rs [])).flatten = [] := by simp [visT]
      rw [hv]
      clear hfit hn hrts hv
      unfold adr fnM
      go_enter Tryd.func32, Tryd.ntmps32
      go_wp2_with fail
      go_ret
      exact ⟨rfl, HS.out⟩
    · have hv : (visT [] (.node es nx pm rs en)).flatten = en := by simp [visT, he]
      rw [hv] at hn hfit ⊢
      have hy := yield_any c.F c.w0 c.p4 c.p5 c.p8 c.m c.ao c.cap c.l0 acc en ro rcap w HS.out hc.hl hc.hcap hc.ht hrts hn hfit
      have hpos : 0 < en.length := List.length_pos_iff.2 he
      have t0 : ((en.length : Int) == 0) = false := by rw [beq_eq_false_iff_ne]; omega
      have HC := Lib.hid hc
      clear hfit hrts he hv hc
      unfold adr fnM
      go_enter Tryd.func32, Tryd.ntmps32
      go_wp2_with (go_at_call 33; refine hy.mono ?_; rintro e w2 ⟨rfl, hS2⟩; have HS2 := Lib.hid hS2; clear hS2)
      go_ret
      exact ⟨rfl, HS2.out⟩
end Go.Proofs.YtlmoifeinglaeaaDoor
