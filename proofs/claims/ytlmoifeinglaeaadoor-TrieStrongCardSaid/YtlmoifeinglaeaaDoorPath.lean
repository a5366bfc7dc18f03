/- Patterns (layer 6): Kind, Shape, Join. -/
import Derived.Test.YtlmoifeinglaeaaDoorWords
namespace Go.Proofs.YtlmoifeinglaeaaDoor
open Go.RowKit

/-- A list of texts that can be read. -/
def Strs (w : World) (ao : Option Addr) (l : List (List UInt8)) : Prop :=
  l = [] ∨ ∃ g off, ao = some ⟨g, off, none⟩ ∧ ∀ j, j < l.length → w.cell? ⟨g, off + j, none⟩ = some (.string (ba (l.getD j [])))

theorem Strs.step {w w' : World} {ao : Option Addr} {l : List (List UInt8)} {P : SP} (h : Strs w ao l) (hS : St w P w') : Strs w' ao l := by
  rcases h with h | ⟨g, off, e, hc⟩
  · exact .inl h
  · refine .inr ⟨g, off, e, fun j hj => ?_⟩
    rw [hS.below.cell (p := ⟨g, off + j, none⟩) (World.block_lt_of_cell? w _ (hc j hj))]
    exact hc j hj

theorem St.strs {w0 w : World} {ao : Option Addr} {n cap : Nat} {l : List (List UInt8)} {R : SP} (h : St w0 (slo 9 1 ao n cap (strs l) * R) w) : Strs w ao l := by
  have hl := h.slo_len.1
  rw [strs_length, Nat.mul_one] at hl
  by_cases h0 : l = []
  · exact .inl h0
  · obtain ⟨g, off, e, hc⟩ := h.slo_cell (by have := List.length_pos_iff.2 h0; omega)
    refine .inr ⟨g, off, e, fun j hj => ?_⟩
    rw [hc j (by omega)]
    simp [Go.Proofs.YtlmoifeinglaeaaDoor.strs, hj]

theorem Strs.drop {w : World} {ao : Option Addr} {l : List (List UInt8)} {cap k : Nat} (h : Strs w ao l) (_hk : k ≤ l.length) (hc : l.length ≤ cap) : Strs w (cutAt ao cap k 1) (l.drop k) := by
  by_cases e0 : l.drop k = []
  · exact .inl e0
  · rcases h with h | ⟨g, off, e, hh⟩
    · subst h; simp at e0
    · have hlt : k < l.length := by
        rcases Nat.lt_or_ge k l.length with h | h
        · exact h
        · exact absurd (List.drop_eq_nil_of_le h) e0
      refine .inr ⟨g, off + k, ?_, fun j hj => ?_⟩
      · subst e
        have : ¬ cap = k := by omega
        simp [cutAt, this, add_none]
      · rw [List.length_drop] at hj
        rw [Nat.add_assoc, hh (k + j) (by omega)]
        simp [List.getD_eq_getElem?_getD]

/-- A segment's kind: 0 a word, 1 any one, 2 all that follow. -/
def kindL : List UInt8 → Nat
  | [] => 0
  | c :: _ => if c = 58 then 1 else if c = 42 then 2 else 0

theorem u8_eq {a : UInt8} {n : Nat} (hn : n < 256) : (a.toNat = n) ↔ a = UInt8.ofNat n := by
  constructor
  · intro h; rw [← h]; simp
  · intro h; rw [h]; simp; omega

set_option maxHeartbeats 1000000 in
theorem kind_any (s : ByteArray) (w : World) :
    Calls Tryd.prog 44 #[.string s] w fun e w' => e = .returned (.int .i64 (kindL (bl s) : Nat)) ∧ w = w' := by
  by_cases h0 : s.size = 0
  · have hnil : bl s = [] := List.eq_nil_of_length_eq_zero (by rw [len_bl]; exact h0)
    have ht : s.toList = [] := by rw [toList_bl]; exact hnil
    have HN := Lib.hid hnil
    clear hnil
    go_enter Tryd.func44, Tryd.ntmps44
    go_wp2_with fail
    go_ret
    exact ⟨by rw [HN.out]; rfl, rfl⟩
  · have hpos : 0 < s.size := by omega
    have hg := bl_get s 0 hpos
    obtain ⟨c, r, hcr⟩ : ∃ c r, bl s = c :: r := by
      cases e : bl s with
      | nil => rw [e] at hg; simp at hg
      | cons c r => exact ⟨c, r, rfl⟩
    rw [hcr] at hg
    have hc0 : s[0] = c := by simpa using hg.symm
    have ht : s.toList.isEmpty = false := by rw [toList_bl, hcr]; rfl
    have HCR := Lib.hid hcr
    have HC0 := Lib.hid hc0
    clear hcr hg hc0
    by_cases h1 : s[0].toNat = 58
    · have hk : kindL (bl s) = 1 := by rw [HCR.out]; simp [kindL, (u8_eq (by omega)).1 (HC0.out ▸ h1)]
      have HK := Lib.hid hk
      clear hk
      go_enter Tryd.func44, Tryd.ntmps44
      go_wp2_with fail
      go_ret
      exact ⟨by rw [HK.out]; rfl, rfl⟩
    · by_cases h2 : s[0].toNat = 42
      · have hk : kindL (bl s) = 2 := by rw [HCR.out]; simp [kindL, (u8_eq (by omega)).1 (HC0.out ▸ h2)]
        have HK := Lib.hid hk
        clear hk
        go_enter Tryd.func44, Tryd.ntmps44
        go_wp2_with fail
        go_ret
        exact ⟨by rw [HK.out]; rfl, rfl⟩
      · have hk : kindL (bl s) = 0 := by
          rw [HCR.out, kindL, if_neg, if_neg]
          · intro e; apply h2; rw [HC0.out, e]; rfl
          · intro e; apply h1; rw [HC0.out, e]; rfl
        have HK := Lib.hid hk
        clear hk
        go_enter Tryd.func44, Tryd.ntmps44
        go_wp2_with fail
        go_ret
        exact ⟨by rw [HK.out]; rfl, rfl⟩

/-- What a segment adds to a shape. -/
def shapeSeg (x : List UInt8) : List UInt8 := match kindL x with
  | 0 => 47 :: x
  | 1 => [47, 58]
  | _ => [47, 42]
def shapeL (l : List (List UInt8)) : List UInt8 := l.flatMap shapeSeg

theorem kindL_cases (x : List UInt8) : kindL x = 0 ∨ kindL x = 1 ∨ kindL x = 2 := by
  unfold kindL
  split
  · exact .inl rfl
  · split
    · exact .inr (.inl rfl)
    · split
      · exact .inr (.inr rfl)
      · exact .inl rfl

theorem shapeSeg_le (x : List UInt8) : (shapeSeg x).length ≤ x.length + 2 := by
  unfold shapeSeg
  split <;> simp

def total (l : List (List UInt8)) : Nat := (l.map fun x => x.length + 2).sum
theorem total_take (l : List (List UInt8)) (k : Nat) : total (l.take k) ≤ total l := by
  have : total l = total (l.take k) + total (l.drop k) := by
    unfold total
    rw [← List.sum_append, ← List.map_append, List.take_append_drop]
  omega
theorem shapeL_le (l : List (List UInt8)) : (shapeL l).length ≤ total l := by
  induction l with
  | nil => simp [shapeL, total]
  | cons x r ih =>
    have := shapeSeg_le x
    simp only [shapeL, total, List.flatMap_cons, List.length_append, List.map_cons, List.sum_cons] at ih ⊢
    omega

theorem str_eq {a b : ByteArray} (h : bl a = bl b) : Value.string a = .string b := by rw [bl_inj h]

theorem ba_app (a b : List UInt8) : ba a ++ ba b = ba (a ++ b) := by
  apply bl_inj
  rw [bl_append, bl_ba, bl_ba, bl_ba]

set_option maxRecDepth 100000 in
set_option maxHeartbeats 2000000 in
theorem shape_any (ao : Option Addr) (cap : Nat) (l : List (List UInt8)) (w : World) (hl : Strs w ao l) (hn : l.length ≤ 1000000) (ht : total l ≤ 1000000) :
    Calls Tryd.prog 54 #[.slice ao l.length cap] w fun e w' => e = .returned (.string (ba (shapeL l))) ∧ w = w' := by
  have HL := Lib.hid hl
  clear hl
  go_enter Tryd.func54, Tryd.ntmps54
  go_wp2_with fail
  go_loop [3, 8] (fun o i => ∃ k : Nat, k ≤ l.length ∧ i = .int .i64 k ∧ o = .string (ba (shapeL (l.take k)))) (fun _ i => l.length - (intOf i).toNat)
  case atStart => exact ⟨0, Nat.zero_le _, rfl, rfl⟩
  case round =>
    obtain ⟨k, hk, rfl, rfl⟩ := hrel
    have hle := shapeL_le (l.take k)
    have htt := total_take l k
    have hsz := size_ba (shapeL (l.take k))
    by_cases hlt : k < l.length
    · obtain ⟨x, hx⟩ : ∃ x, x = l.getD k [] := ⟨_, rfl⟩
      obtain ⟨g, off, hao, hc⟩ : ∃ g off, ao = some ⟨g, off, none⟩ ∧ ∀ j, j < l.length → w.cell? ⟨g, off + j, none⟩ = some (.string (ba (l.getD j []))) := by
        rcases HL.out with h | h
        · subst h; simp at hlt
        · exact h
      have hck := hc k hlt
      rw [← hx] at hck
      have hkd := kind_any (ba x) w
      rw [bl_ba] at hkd
      have hsx := size_ba x
      have hstep : shapeL (l.take (k + 1)) = shapeL (l.take k) ++ shapeSeg x := by
        rw [take_snoc' l k x (by rw [hx]; simp [hlt])]
        simp [shapeL]
      have hle2 := shapeL_le (l.take (k + 1))
      have htt2 := total_take l (k + 1)
      rw [hstep, List.length_append] at hle2
      have HX := Lib.hid hx
      have HS := Lib.hid hstep
      have HSZ := Lib.hid hsz
      have HSX := Lib.hid hsx
      have hb0 : (ba (shapeL (l.take k))).size + ((ba x).size + 2) ≤ 9223372036854775807 := by
        rw [HSZ.out, HSX.out]
        have : (shapeL (l.take k)).length ≤ 1000000 := by omega
        have hx2 : x.length ≤ total l := by
          rw [HX.out]
          have : l.getD k [] ∈ l := by simp [List.getD_eq_getElem?_getD, hlt]
          obtain ⟨a, b, e⟩ := List.append_of_mem this
          conv => rhs; rw [e]
          simp [total]; omega
        omega
      clear hc hx hstep hsz hsx hle hle2 htt htt2
      subst hao
      rcases kindL_cases x with h0 | h0 | h0
      · rw [h0] at hkd
        have H0 := Lib.hid h0
        clear h0
        go_wp2_with (go_at_call 44; refine hkd.mono ?_; rintro e w' ⟨rfl, rfl⟩)
        go_round
        case rel => exact ⟨k + 1, by omega, by go_num, str_eq (by rw [HS.out, bl_ba]; simp only [bl_append, bl_ba, shapeSeg, H0.out]; rfl)⟩
        case measure => simp [intOf]; omega
      · rw [h0] at hkd
        have H0 := Lib.hid h0
        clear h0
        go_wp2_with (go_at_call 44; refine hkd.mono ?_; rintro e w' ⟨rfl, rfl⟩)
        go_round
        case rel => exact ⟨k + 1, by omega, by go_num, str_eq (by rw [HS.out, bl_ba]; simp only [bl_append, bl_ba, shapeSeg, H0.out]; rfl)⟩
        case measure => simp [intOf]; omega
      · rw [h0] at hkd
        have H0 := Lib.hid h0
        clear h0
        go_wp2_with (go_at_call 44; refine hkd.mono ?_; rintro e w' ⟨rfl, rfl⟩)
        go_round
        case rel => exact ⟨k + 1, by omega, by go_num, str_eq (by rw [HS.out, bl_ba]; simp only [bl_append, bl_ba, shapeSeg, H0.out]; rfl)⟩
        case measure => simp [intOf]; omega
    · have hall : l.take k = l := List.take_of_length_le (by omega)
      have HA := Lib.hid hall
      clear hall
      go_wp2_with fail
      go_ret
      exact ⟨congrArg (fun z => Ending.returned (.string (ba (shapeL z)))) HA.out, rfl⟩
end Go.Proofs.YtlmoifeinglaeaaDoor
