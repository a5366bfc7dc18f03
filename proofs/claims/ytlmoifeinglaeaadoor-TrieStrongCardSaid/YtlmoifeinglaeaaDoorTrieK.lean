/- Trees of routes (layer 8): put. -/
import Derived.Test.YtlmoifeinglaeaaDoorTrieJ
namespace Go.Proofs.YtlmoifeinglaeaaDoor
open Go.RowKit
attribute [local go_sem ↓] Go.wp_at_zero Go.wp_at_succ

section
variable {w w1 w2 : World} {M : Nat} {A : Nat → Prop} {t T : Nd} {b ecap b2 : Nat} {eo vn vp vr ro : Option Addr} {l : List Ed}

theorem param_shut (hMM : M + 1 ≤ 1000000) (hO : Own w M (fun x => A x ∧ x < w.heap.size) t b eo ecap vn vp vr ro l w1) (hS : St w1 1 w2)
    (hR : Rep w2 (M + 1) (fun y => (A y ∧ y < w.heap.size) ∨ w1.heap.size ≤ y) (adr b2) T) :
    Made w (M + 1) A (.node t.es t.nx T t.rs t.en) (.returned (.pointer (adr b))) (w2.setCell ⟨b, 2, none⟩ (.pointer (adr b2))) := by
  have hw1 := hO.st.size
  have hX := (hO.st.rebase hS).eq (SP.one_mul _)
  have hkeep : Keeps (Bel w w1 A) w2 (w2.setCell ⟨b, 2, none⟩ (.pointer (adr b2))) := keeps_set hO.apartb
  have hm : ∀ {v : Option Addr} {u : Nd}, Rep w1 M (fun x => A x ∧ x < w.heap.size) v u → Rep (w2.setCell ⟨b, 2, none⟩ (.pointer (adr b2))) (M + 1) (Bel w w1 A) v u := fun r => ((r.step hS).more (Nat.le_succ M) (B := Bel w w1 A) fun x hx _ => .inl hx).keep hkeep
  exact made_of hMM (A := A) (B := Bel w w1 A) (t' := .node t.es t.nx T t.rs t.en) (hX.setCell (i := 2) (.pointer (adr b2))) hO.he (Nat.le_succ_of_le hO.hM) (Nat.le_succ_of_le hO.hM2) hO.hx (fun u hu => hm (hO.hl u hu)) (hm hO.hn) (hR.keep hkeep) (hm hO.hr)
    ((hO.hen.step hS).keep (A := Bel w w1 A) (fun g off e => .inl (hO.henA g off e)) hkeep) (fun g off e => .inl (hO.henA g off e)) hO.hrn (fun x hx => by
      rcases hx with hx | hx
      · exact .inl hx.1
      · exact .inr (by omega))

theorem rest_shut (hMM : M + 1 ≤ 1000000) (hO : Own w M (fun x => A x ∧ x < w.heap.size) t b eo ecap vn vp vr ro l w1) (hS : St w1 1 w2)
    (hR : Rep w2 (M + 1) (fun y => (A y ∧ y < w.heap.size) ∨ w1.heap.size ≤ y) (adr b2) T) :
    Made w (M + 1) A (.node t.es t.nx t.pm T t.en) (.returned (.pointer (adr b))) (w2.setCell ⟨b, 3, none⟩ (.pointer (adr b2))) := by
  have hw1 := hO.st.size
  have hX := (hO.st.rebase hS).eq (SP.one_mul _)
  have hkeep : Keeps (Bel w w1 A) w2 (w2.setCell ⟨b, 3, none⟩ (.pointer (adr b2))) := keeps_set hO.apartb
  have hm : ∀ {v : Option Addr} {u : Nd}, Rep w1 M (fun x => A x ∧ x < w.heap.size) v u → Rep (w2.setCell ⟨b, 3, none⟩ (.pointer (adr b2))) (M + 1) (Bel w w1 A) v u := fun r => ((r.step hS).more (Nat.le_succ M) (B := Bel w w1 A) fun x hx _ => .inl hx).keep hkeep
  exact made_of hMM (A := A) (B := Bel w w1 A) (t' := .node t.es t.nx t.pm T t.en) (hX.setCell (i := 3) (.pointer (adr b2))) hO.he (Nat.le_succ_of_le hO.hM) (Nat.le_succ_of_le hO.hM2) hO.hx (fun u hu => hm (hO.hl u hu)) (hm hO.hn) (hm hO.hp) (hR.keep hkeep)
    ((hO.hen.step hS).keep (A := Bel w w1 A) (fun g off e => .inl (hO.henA g off e)) hkeep) (fun g off e => .inl (hO.henA g off e)) hO.hrn (fun x hx => by
      rcases hx with hx | hx
      · exact .inl hx.1
      · exact .inr (by omega))
end

set_option maxRecDepth 100000 in
set_option maxHeartbeats 4000000 in
theorem put_cons (M : Nat) (hMM : M + 1 ≤ 1000000) (hM1 : 1 ≤ M) (r : Rt) (x : List UInt8) (hx : x.length ≤ 1000000) (l : List (List UInt8)) (ih : PutOk M r l) : PutOk M r (x :: l) := by
  intro A w v t ao cap h hstr hlen hmax
  rw [List.length_cons] at hlen ⊢
  obtain ⟨g, off, rfl, hc0⟩ := hstr.get (k := 0) (by simp)
  rw [Nat.add_zero, List.getElem_cons_zero] at hc0
  have hgl : g < w.heap.size := World.block_lt_of_cell? w _ hc0
  have hS0 := ((St.refl w).alloc (.cells #[.slice (some ⟨g, off, none⟩) (l.length + 1) cap] 37)).alloc (.cells #[.string (ba r.m), .string (ba r.p), .string (ba r.h)] 39)
  have hz : (w.alloc (.cells #[.slice (some ⟨g, off, none⟩) (l.length + 1) cap] 37)).heap.size = w.heap.size + 1 := by simp
  rw [hz] at hS0
  have b5 := hS0.blk
  have b4 := hS0.drop.blk
  have c4 := hS0.drop.cell 0
  have cg := (hS0.below.cell (p := ⟨g, off, none⟩) hgl).trans hc0
  have hthen := put1_any M r x l ih _ b4 b5 (hstr.step hS0) hlen hmax
  have hcop := copied_any M (by omega) A v t _ (h.step hS0)
  have hk := fun w => kind_any (ba x) w
  rw [bl_ba] at hk
  simp at c4
  have HT := Lib.hid hthen
  have HR := Lib.hid (h.step hS0)
  have HS0 := Lib.hid hS0
  have hlI : ((l.length : Int) + 1 == 0) = false := by rw [beq_eq_false_iff_ne]; omega
  have hlI2 : (((l.length + 1 : Nat) : Int) == 0) = false := by rw [beq_eq_false_iff_ne]; omega
  clear b5 b4 hthen hS0 h hstr hc0 hz ih
  rcases kindL_cases x with k | k | k
  · rw [k] at hk
    have e : putT (x :: l) r t = wordT (putT l r) x.length t x := by rw [putT, if_pos k]
    rw [e]
    have hw := word_any M hMM hM1 _ _ _ _ HT.out x.length hx x (Nat.le_refl _) A _ _ (St.refl _) v t HR.out
    unfold fnV adr at hw
    clear e k hcop
    go_enter Tryd.func31, Tryd.ntmps31
    go_wp2_with (first | (go_at_call 44; refine (hk _).mono ?_; rintro e w' ⟨rfl, rfl⟩) | (go_at_call 47; refine hw.mono ?_; rintro e w2 ⟨b2, rfl, hR2, hS2⟩; have HM := Lib.hid (Made.base ⟨b2, rfl, hR2, hS2⟩ HS0.out); unfold adr; clear hR2 hS2))
    go_ret
    exact HM.out
  · rw [k] at hk
    have e : putT (x :: l) r t = .node t.es t.nx (putT l r t.pm) t.rs t.en := by rw [putT, if_neg (by omega), if_pos k]
    rw [e]
    clear e k
    go_enter Tryd.func31, Tryd.ntmps31
    go_wp2_with (first | (go_at_call 44; refine (hk _).mono ?_; rintro e w' ⟨rfl, rfl⟩) | (go_at_call 45; refine hcop.mono ?_; rintro e w1 ⟨b, eo, ecap, vn, vp, vr, ro, l0, rfl, hO⟩; have HO := Lib.hid hO; have d2 : w1.cell? ⟨b, 2, none⟩ = some (.pointer vp) := hO.st.cell 2; unfold adr; clear hO) | (go_at_call 46; refine (HT.out _ _ _ HO.out.st _ _ HO.out.hp).mono ?_; rintro e w2 ⟨b2, rfl, hR2, hS2⟩; have HR2 := Lib.hid hR2; have HS2 := Lib.hid hS2; have hx := (HO.out.st.rebase hS2).eq (SP.one_mul _); have f2 : w2.cell? ⟨b, 2, none⟩ = some (.pointer vp) := hx.cell 2; have ff := hx.free 2; unfold adr; clear hR2 hS2 hx))
    go_ret
    exact (param_shut hMM HO.out HS2.out HR2.out).base HS0.out
  · rw [k] at hk
    have e : putT (x :: l) r t = .node t.es t.nx t.pm (putT [] r t.rs) t.en := by
      conv => lhs; unfold putT
      rw [if_neg (by omega), if_neg (by omega)]
      rfl
    rw [e]
    clear e k HT HR
    go_enter Tryd.func31, Tryd.ntmps31
    go_wp2_with (first | (go_at_call 44; refine (hk _).mono ?_; rintro e w' ⟨rfl, rfl⟩) | (go_at_call 45; refine hcop.mono ?_; rintro e w1 ⟨b, eo, ecap, vn, vp, vr, ro, l0, rfl, hO⟩; have HO := Lib.hid hO; have d3 : w1.cell? ⟨b, 3, none⟩ = some (.pointer vr) := hO.st.cell 3; have d50 : w1.cell? ⟨w.heap.size + 1, 0, none⟩ = some (.string (ba r.m)) := ((HS0.out.rebase hO.st).eq (SP.mul_left_comm _ _ _)).cell 0; have d51 : w1.cell? ⟨w.heap.size + 1, 1, none⟩ = some (.string (ba r.p)) := ((HS0.out.rebase hO.st).eq (SP.mul_left_comm _ _ _)).cell 1; have d52 : w1.cell? ⟨w.heap.size + 1, 2, none⟩ = some (.string (ba r.h)) := ((HS0.out.rebase hO.st).eq (SP.mul_left_comm _ _ _)).cell 2; unfold adr; clear hO))
    have hcall := put_nil M hMM r _ w1.drew vr t.rs none 0 (HO.out.hr.step (St.refl w1).drew)
    clear hcop hk cg c4
    go_region_with (go_at_call 31; refine hcall.mono ?_; rintro e w2 ⟨b2, rfl, hR2, hS2⟩; have HR2 := Lib.hid hR2; have HS2 := Lib.hid hS2; have hx := (HO.out.st.drew.rebase hS2).eq (SP.one_mul _); have f2 : w2.cell? ⟨b, 3, none⟩ = some (.pointer vr) := hx.cell 3; have ff := hx.free 3; unfold adr; clear hR2 hS2 hx)
    all_goals
      go_wp2_with fail
      go_ret
      exact (rest_shut hMM HO.out ((St.refl w1).drew.rebase HS2.out |>.nil) HR2.out).base HS0.out

theorem put_any (M : Nat) (hMM : M + 1 ≤ 1000000) (hM1 : 1 ≤ M) (r : Rt) : ∀ (l : List (List UInt8)), (∀ x ∈ l, x.length ≤ 1000000) → PutOk M r l
  | [], _ => fun A w v t ao cap h _ _ _ => put_nil M hMM r A w v t ao cap h
  | x :: l, hl => put_cons M hMM hM1 r x (hl x List.mem_cons_self) l (put_any M hMM hM1 r l fun y hy => hl y (List.mem_cons_of_mem _ hy))
end Go.Proofs.YtlmoifeinglaeaaDoor
