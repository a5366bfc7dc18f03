/- Trees of routes (layer 8): step. -/
import Derived.Test.YtlmoifeinglaeaaDoorTrieH
import Derived.Test.YtlmoifeinglaeaaDoorFul
import Derived.BigQuiet
import Derived.Deep.RegionHeld3
import Derived.Deep.DrawnRows
namespace Go.Proofs.YtlmoifeinglaeaaDoor
open Go.RowKit
attribute [local go_sem ↓] Go.wp_at_zero Go.wp_at_succ

/-- The edge that step takes. -/
theorem stepT_at {l : List Ed} {t : Nd} (he : t.es = edT l) {s : List UInt8} (hs : s ≠ []) (k0 : Nat) {k : Nat} (hk : k < l.length) (hno : ∀ j (hj : j < l.length), j < k → l[j].1.isPrefixOf s = false) (hp : l[k].1.isPrefixOf s = true) :
    stepT (k0 + 1) t s = stepT k0 l[k].2.2 (s.drop l[k].1.length) := by
  have hf : (t.es.find? fun e => e.1.isPrefixOf s) = some (l[k].1, l[k].2.2) := by
    rw [he, List.find?_eq_some_iff_getElem]
    refine ⟨hp, k, by simpa [edT] using hk, by simp [edT], fun j hj => ?_⟩
    have := hno j (by omega) hj
    simp [edT, this]
  conv => lhs; unfold stepT
  rw [if_neg hs, hf]
theorem stepT_no {l : List Ed} {t : Nd} (he : t.es = edT l) {s : List UInt8} (hs : s ≠ []) (k0 : Nat) (hno : ∀ j (hj : j < l.length), l[j].1.isPrefixOf s = false) : stepT (k0 + 1) t s = .nil := by
  have hf : (t.es.find? fun e => e.1.isPrefixOf s) = none := by
    rw [he, List.find?_eq_none]
    intro x hx
    simp only [edT, List.mem_map] at hx
    obtain ⟨u, hu, rfl⟩ := hx
    obtain ⟨j, hj, rfl⟩ := List.mem_iff_getElem.1 hu
    simp [hno j hj]
  unfold stepT
  rw [if_neg hs, hf]

/-- What step leaves. -/
def StepPost (w0 : World) (M : Nat) (A : Nat → Prop) (t : Nd) (w : World) (e : Ending) (w' : World) : Prop := ∃ v, e = .returned (.pointer v) ∧ Rep w0 M A v t ∧ St w 1 w'

set_option maxRecDepth 100000 in
set_option maxHeartbeats 4000000 in
theorem step_go (w0 : World) (M : Nat) (hMM : M ≤ 1000000) (A : Nat → Prop) (k0 : Nat)
    (ih : ∀ (s : List UInt8), s.length ≤ k0 → ∀ v t (w : World) (P : SP), Rep w0 M A v t → t ≠ Nd.nil → Ful t → Rdx t → St w0 P w → Calls Tryd.prog 48 #[.pointer v, .string (ba s)] w (StepPost w0 M A (stepT k0 t s) w))
    (s : List UInt8) (hs : s ≠ []) (hsk : s.length ≤ k0 + 1) (v : Option Addr) (t : Nd) (w : World) (P : SP) (h : Rep w0 M A v t) (hv : t ≠ Nd.nil) (hful : Ful t) (hrdx : Rdx t) (hW : St w0 P w) :
    Calls Tryd.prog 48 #[.pointer v, .string (ba s)] w (StepPost w0 M A (stepT (k0 + 1) t s) w) := by
  cases h with
  | nil => exact absurd rfl hv
  | @node b eo ro vn vp vr ecap rcap l es nx pm rs en hb hA he hc hcA hcap hM hM2 hx hl hn hp hr hen henA hrc hrn hrM =>
    have c0 : w.cell? ⟨b, 0, none⟩ = some (.slice eo l.length ecap) := by
      have hb' : w.heap[b]? = _ := (hW.old (Array.getElem?_eq_some_iff.1 hb).1).trans hb
      simp [World.cell?, hb']
    have IH := Lib.hid ih
    have HS := Lib.hid hs
    have HW := Lib.hid hW
    have HC := Lib.hid hc
    have HX := Lib.hid hx
    have HL := Lib.hid hl
    have HE := Lib.hid he
    have HFU := Lib.hid hful
    have HRD := Lib.hid hrdx
    have h0 : (ba s).toList.isEmpty = false := by rw [toList_bl, bl_ba]; cases s <;> simp_all
    have hcom := fun (a : List UInt8) (wq : World) (ha : a.length ≤ 1000000) => common_any a s wq ha
    clear ih hs hW hc hx hl he hful hrdx hb hn hp hr hen henA hrc hrn hrM hcA
    unfold adr
    go_enter Tryd.func48, Tryd.ntmps48
    go_wp2_with fail
    clear c0
    have hlM : l.length ≤ 1000000 := by omega
    go_loopg [18] (l.length + 1) (fun gh i wr => ∃ (k : Nat), gh = l.length + 1 - k ∧ k ≤ l.length ∧ i = .int .i64 k ∧ (∀ j (hj : j < l.length), j < k → l[j].1.isPrefixOf s = false) ∧ St w 1 wr)
    case atStart => exact ⟨0, rfl, Nat.zero_le _, rfl, fun j _ hj => absurd hj (Nat.not_lt_zero _), St.refl _⟩
    case round =>
      obtain ⟨k, rfl, hk, rfl, hno, hST⟩ := hrel
      have HNO := Lib.hid hno
      have HST := Lib.hid hST
      clear hno hST
      by_cases hlt : k < l.length
      · obtain ⟨g, off, rfl, c1, c2⟩ := ((HC.out.step HW.out).step HST.out).edge hlt
        have hxl := HX.out l[k] (List.getElem_mem hlt)
        have HRX := Lib.hid (HL.out l[k] (List.getElem_mem hlt))
        obtain ⟨x, hx⟩ : ∃ x, x = l[k] := ⟨_, rfl⟩
        rw [← hx] at c1 c2 hxl HRX
        have HXE := Lib.hid hx
        have hcx := fun wq => hcom x.1 wq hxl
        have hsx := size_ba x.1
        have hci := comm_iff x.1 s
        have hcl := comm_le x.1 s
        obtain ⟨c, hcc⟩ : ∃ c, c = comm x.1 s := ⟨_, rfl⟩
        rw [← hcc] at hcx hci hcl
        have HCI := Lib.hid hci
        clear hx hcom hci hcc
        go_wp2_with fail
        have hX4 := (HST.out.alloc (.cells #[.string (ba x.1), .pointer x.2.1] 107))
        have d1 : (wr.alloc (.cells #[.string (ba x.1), .pointer x.2.1] 107)).cell? ⟨wr.heap.size, 0, none⟩ = some (.string (ba x.1)) := hX4.cell 0
        have d2 : (wr.alloc (.cells #[.string (ba x.1), .pointer x.2.1] 107)).cell? ⟨wr.heap.size, 1, none⟩ = some (.pointer x.2.1) := hX4.cell 1
        have HX4 := Lib.hid hX4
        clear hX4
        generalize wr.alloc (.cells #[.string (ba x.1), .pointer x.2.1] 107) = w4 at *
        generalize wr.heap.size = eb at *
        by_cases hpre : x.1.isPrefixOf s = true
        · have e1 : ((c : Int) == ((ba x.1).size : Int)) = true := by rw [beq_iff_eq, hsx]; rw [HCI.out.2 hpre]
          have hcx2 := HCI.out.2 hpre
          have HP := Lib.hid hpre
          clear hpre
          subst hcx2
          go_region_held3 (fun w' => w'.cell? ⟨eb, 0, none⟩ = some (.string (ba x.1)) ∧ w'.cell? ⟨eb, 1, none⟩ = some (.pointer x.2.1)) (first | exact ⟨d1, d2⟩ | go_keep) ((go_at_call 56; refine (hcx _).mono ?_; rintro e w3 ⟨rfl, nn, rfl⟩))
          go_wp2_with fail
          have hss := size_ba s
          have hdr : (ba s).extract x.1.length s.length = ba (s.drop x.1.length) := by
            apply bl_inj
            rw [bl_extract, bl_ba, bl_ba]
            exact List.take_of_length_le (by rw [List.length_drop]; exact Nat.le_refl _)
          have hmem := List.getElem_mem hlt
          rw [← HXE.out] at hmem
          have hfx : x.2.2 ≠ Nd.nil ∧ Ful x.2.2 := HFU.out.edge (x.1, x.2.2) (by
            show (x.1, x.2.2) ∈ es
            rw [HE.out]
            exact List.mem_map.2 ⟨x, hmem, rfl⟩)
          have hme : (x.1, x.2.2) ∈ (Nd.node es nx pm rs en).es := by
            show (x.1, x.2.2) ∈ es
            rw [HE.out]
            exact List.mem_map.2 ⟨x, hmem, rfl⟩
          have hrx : Rdx x.2.2 := HRD.out.edge _ hme
          have hpos : 0 < x.1.length := List.length_pos_iff.2 (HRD.out.ok.1 _ hme)
          have HLEN := Lib.hid (by rw [List.length_drop]; omega : (s.drop x.1.length).length ≤ k0)
          have hcall := fun (wq : World) (Q : SP) (hq : St w Q wq) (hlen : (s.drop x.1.length).length ≤ k0) => IH.out (s.drop x.1.length) hlen x.2.1 x.2.2 wq _ HRX.out hfx.1 hfx.2 hrx (HW.out.rebase hq)
          rw [← hdr] at hcall
          have HCALL := Lib.hid hcall
          have HDR := Lib.hid hdr
          have heb : eb < w4.heap.size := HX4.out.lt
          clear hdr hcall hme hrx hmem hfx hcx
          go_region_held3 (fun w' => w'.cell? ⟨eb, 0, none⟩ = some (.string (ba x.1)) ∧ w'.cell? ⟨eb, 1, none⟩ = some (.pointer x.2.1)) (first | exact ⟨d1, d2⟩ | exact ⟨f1, f2⟩ | go_keep) ((go_at_call 48; refine (HCALL.out _ _ (HX4.out.drewN _) HLEN.out).mono ?_; rintro e w5 ⟨v5, rfl, hR5, hS5⟩; have f1 := (hS5.below.cell (p := ⟨eb, 0, none⟩) heb).trans d1; have f2 := (hS5.below.cell (p := ⟨eb, 1, none⟩) heb).trans d2; have HR5 := Lib.hid hR5; have HS5 := Lib.hid hS5; clear hR5 hS5))
          go_wp2_with fail
          go_ret
          have hx := HXE.out
          subst hx
          refine ⟨v5, rfl, ?_, ((HX4.out.drewN _).rebase HS5.out).nil⟩
          rw [stepT_at (t := .node es nx pm rs en) HE.out HS.out k0 hlt HNO.out HP.out]
          exact HR5.out
        · have e1 : ((c : Int) == ((ba x.1).size : Int)) = false := by
            rw [beq_eq_false_iff_ne, hsx]
            intro e
            exact hpre (HCI.out.1 (by omega))
          have HP := Lib.hid (Bool.eq_false_iff.2 hpre)
          clear hpre
          go_region_held3 (fun w' => w'.cell? ⟨eb, 0, none⟩ = some (.string (ba x.1)) ∧ w'.cell? ⟨eb, 1, none⟩ = some (.pointer x.2.1)) (first | exact ⟨d1, d2⟩ | go_keep) ((go_at_call 56; refine (hcx _).mono ?_; rintro e w3 ⟨rfl, nn, rfl⟩))
          go_wp2_with fail
          go_roundg (l.length + 1 - (k + 1))
          case measure => omega
          case rel => exact ⟨k + 1, rfl, by omega, by go_num, fun j hj hjk => by
            by_cases e : j = k
            · subst e; rw [← HXE.out]; exact HP.out
            · exact HNO.out j hj (by omega), (HX4.out.drewN _).nil⟩
      · obtain rfl : k = l.length := by omega
        go_wp2_with fail
        go_ret
        refine ⟨none, rfl, ?_, HST.out⟩
        rw [stepT_no (t := .node es nx pm rs en) HE.out HS.out k0 (fun j hj => HNO.out j hj hj)]
        exact .nil

set_option maxRecDepth 100000 in
set_option maxHeartbeats 1000000 in
theorem step_end (w0 : World) (M : Nat) (A : Nat → Prop) (v : Option Addr) (t : Nd) (w : World) (P : SP) (h : Rep w0 M A v t) (hv : t ≠ Nd.nil) (hW : St w0 P w) :
    Calls Tryd.prog 48 #[.pointer v, .string (ba [])] w (StepPost w0 M A t.nx w) := by
  cases h with
  | nil => exact absurd rfl hv
  | @node b eo ro vn vp vr ecap rcap l es nx pm rs en hb hA he hc hcA hcap hM hM2 hx hl hn hp hr hen henA hrc hrn hrM =>
    have c1 : w.cell? ⟨b, 1, none⟩ = some (.pointer vn) := by
      have hb' : w.heap[b]? = _ := (hW.old (Array.getElem?_eq_some_iff.1 hb).1).trans hb
      simp [World.cell?, hb']
    have HN := Lib.hid hn
    have h0 : (ba []).toList.isEmpty = true := by rw [toList_bl, bl_ba]; rfl
    clear hb he hc hcA hcap hM hM2 hx hl hn hp hr hen henA hrc hrn hrM hW
    unfold adr
    go_enter Tryd.func48, Tryd.ntmps48
    go_wp2_with fail
    go_ret
    exact ⟨vn, rfl, HN.out, St.refl _⟩

theorem step_any (w0 : World) (M : Nat) (hMM : M ≤ 1000000) (A : Nat → Prop) (k : Nat) : ∀ (s : List UInt8), s.length ≤ k → ∀ v t (w : World) (P : SP), Rep w0 M A v t → t ≠ Nd.nil → Ful t → Rdx t → St w0 P w →
    Calls Tryd.prog 48 #[.pointer v, .string (ba s)] w (StepPost w0 M A (stepT k t s) w) := by
  induction k with
  | zero =>
    intro s hs v t w P h hv hf hr hW
    obtain rfl : s = [] := List.eq_nil_of_length_eq_zero (by omega)
    exact step_end w0 M A v t w P h hv hW
  | succ k ih =>
    intro s hs v t w P h hv hf hr hW
    by_cases e : s = []
    · subst e
      rw [stepT_nil]
      exact step_end w0 M A v t w P h hv hW
    · exact step_go w0 M hMM A k ih s e hs v t w P h hv hf hr hW
end Go.Proofs.YtlmoifeinglaeaaDoor
