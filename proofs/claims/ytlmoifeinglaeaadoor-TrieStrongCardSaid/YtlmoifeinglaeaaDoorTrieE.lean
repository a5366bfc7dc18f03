/- Trees of routes (layer 8): word, at a word's end. -/
import Derived.Test.YtlmoifeinglaeaaDoorTrieD
import Derived.Test.YtlmoifeinglaeaaDoorTrieS
namespace Go.Proofs.YtlmoifeinglaeaaDoor
open Go.RowKit

/-- What put hands to word. -/
def fnV (p4 p5 : Option Addr) : Value := .func (.func 46) #[] #[.pointer p4, .pointer p5]

/-- What a call that makes a tree of another one leaves. -/
def Made (w : World) (M : Nat) (A : Nat → Prop) (t : Nd) (e : Ending) (w' : World) : Prop :=
  ∃ b, e = .returned (.pointer (adr b)) ∧ Rep w' M (fun x => A x ∨ w.heap.size ≤ x) (adr b) t ∧ St w 1 w'

def ThenOk (M : Nat) (p4 p5 : Option Addr) (F : Nd → Nd) (W : World) : Prop :=
  ∀ (A : Nat → Prop) (w1 : World) (P : SP), St W P w1 → ∀ v t, Rep w1 M A v t → Calls Tryd.prog 46 #[.pointer v, .pointer p4, .pointer p5] w1 (Made w1 (M + 1) A (F t))

set_option maxRecDepth 100000 in
set_option maxHeartbeats 4000000 in
theorem word_end (M : Nat) (hMM : M + 1 ≤ 1000000) (p4 p5 : Option Addr) (F : Nd → Nd) (W : World) (hF : ThenOk M p4 p5 F W) (A : Nat → Prop) (w : World) (P : SP) (hW : St W P w) (v : Option Addr) (t : Nd) (h : Rep w M A v t) :
    Calls Tryd.prog 47 #[.pointer v, .string (ba []), fnV p4 p5] w (Made w (M + 1) A (t.next F)) := by
  have hcop := copied_any M (by omega) A v t w h
  have HF := Lib.hid hF
  have HW := Lib.hid hW
  have h0 : (ba []).toList.isEmpty = true := by rw [toList_bl, bl_ba]; rfl
  clear hF h hW
  unfold fnV
  go_enter Tryd.func47, Tryd.ntmps47
  go_wp2_with (first | (go_at_call 45; refine hcop.mono ?_; rintro e w1 ⟨b, eo, ecap, vn, vp, vr, ro, l, rfl, hO⟩; have HO := Lib.hid hO; have c1 := hO.st.cell 1; simp at c1; unfold adr; clear hO) | (go_at_call 46; refine (HF.out _ _ _ (HW.out.rebase HO.out.st) _ _ HO.out.hn).mono ?_; rintro e w2 ⟨b2, rfl, hR2, hS2⟩; have HR2 := Lib.hid hR2; have HS2 := Lib.hid hS2; have hx := (HO.out.st.rebase hS2).eq (SP.one_mul _); have HX := Lib.hid hx; have d1 := hx.cell 1; have df := hx.free 1; simp at d1; unfold adr; clear hR2 hS2 hx))
  go_ret
  have hO := HO.out
  have hl := hO.lies
  have hk : Keeps (fun x => A x ∧ x < w.heap.size) w2 (w2.setCell ⟨b, 1, none⟩ (.pointer (adr b2))) := keeps_set hO.bA
  have hk2 : Keeps (fun x => (A x ∧ x < w.heap.size) ∨ w1.heap.size ≤ x) w2 (w2.setCell ⟨b, 1, none⟩ (.pointer (adr b2))) := keeps_set (fun h => by
    rcases h with h | h
    · exact hO.bA h
    · have := hl.1.2; omega)
  have hm : ∀ {v : Option Addr} {u : Nd}, Rep w1 M (fun x => A x ∧ x < w.heap.size) v u → Rep (w2.setCell ⟨b, 1, none⟩ (.pointer (adr b2))) (M + 1) (fun x => (A x ∧ x < w.heap.size) ∨ w1.heap.size ≤ x) v u :=
    fun r => ((r.step HS2.out).keep hk).more (Nat.le_succ M) fun x hx _ => .inl hx
  have hown : Own w (M + 1) (fun x => (A x ∧ x < w.heap.size) ∨ w1.heap.size ≤ x) (t.next F) b eo ecap (adr b2) vp vr ro l (w2.setCell ⟨b, 1, none⟩ (.pointer (adr b2))) := by
    refine ⟨HX.out.setCell (i := 1) (.pointer (adr b2)), fun h => ?_, fun g off e h => ?_, hO.he, Nat.le_succ_of_le hO.hM, Nat.le_succ_of_le hO.hM2, hO.hx, fun t ht => hm (hO.hl t ht), HR2.out.keep hk2, hm hO.hp, hm hO.hr, (hO.hen.step HS2.out).keep (fun g off e => hO.henA g off e) hk, fun g off e => .inl (hO.henA g off e), hO.hrn⟩
    · rcases h with h | h
      · exact hO.bA h
      · have := hl.1.2; omega
    · rcases h with h | h
      · exact hO.eA g off e h
      · have := (hl.2 g off e).2; omega
  exact ⟨b, rfl, hown.shut hMM (fun x hx => by
    rcases hx with (hx | hx) | hx
    · exact .inl hx.1
    · have := hO.st.size; exact .inr (by omega)
    · exact .inr hx), hown.st.nil⟩
end Go.Proofs.YtlmoifeinglaeaaDoor
