/- Segments (layer 6): Join. -/
import Derived.Test.YtlmoifeinglaeaaDoorPattern
import Derived.WalkLawsBesides
namespace Go.Proofs.YtlmoifeinglaeaaDoor
open Go.RowKit

/-- Segments with a slash between. -/
def joinL : List (List UInt8) → List UInt8
  | [] => []
  | x :: r => x ++ r.flatMap (47 :: ·)

theorem joinL_snoc (l : List (List UInt8)) (x : List UInt8) : joinL (l ++ [x]) = joinL l ++ (if l = [] then [] else [47]) ++ x := by
  cases l with
  | nil => simp [joinL]
  | cons y r => simp [joinL]
theorem joinL_le (l : List (List UInt8)) : (joinL l).length ≤ total l := by
  cases l with
  | nil => simp [joinL, total]
  | cons x r =>
    have : ∀ r : List (List UInt8), (r.flatMap (47 :: ·)).length ≤ total r := by
      intro r
      induction r with
      | nil => simp [total]
      | cons y r ih => simp only [List.flatMap_cons, List.length_append, total, List.map_cons, List.sum_cons, List.length_cons] at ih ⊢; omega
    have := this r
    simp only [joinL, List.length_append, total, List.map_cons, List.sum_cons] at this ⊢
    omega
theorem total_drop (l : List (List UInt8)) (k : Nat) : total (l.drop k) ≤ total l := by
  have : total l = total (l.take k) + total (l.drop k) := by
    unfold total
    rw [← List.sum_append, ← List.map_append, List.take_append_drop]
  omega
theorem total_len (l : List (List UInt8)) : l.length * 2 ≤ total l := by
  induction l with
  | nil => simp [total]
  | cons x r ih => simp only [total, List.map_cons, List.sum_cons, List.length_cons] at ih ⊢; omega
theorem total_mem {l : List (List UInt8)} {x : List UInt8} (h : x ∈ l) : x.length ≤ total l := by
  obtain ⟨a, b, e⟩ := List.append_of_mem h
  conv => rhs; rw [e]
  simp [total]; omega

set_option maxRecDepth 100000 in
set_option maxHeartbeats 2000000 in
theorem join_any (ao : Option Addr) (cap : Nat) (l : List (List UInt8)) (i : Nat) (w : World) (hl : Strs w ao l) (hi : i < l.length) (hcap : l.length ≤ cap) (ht : total l ≤ 1000000) :
    Calls Tryd.prog 49 #[.slice ao l.length cap, .int .i64 i] w fun e w' => e = .returned (.string (ba (joinL (l.drop i)))) ∧ w = w' := by
  obtain ⟨g, off, rfl, _⟩ := hl.get hi
  have hl2 := hl.drop (Nat.le_of_lt hi) hcap
  have hci : ¬ cap = i := by omega
  unfold cutAt at hl2
  rw [if_neg hci, Option.map_some, Nat.mul_one, add_none] at hl2
  have hmn : (l.drop i).length = l.length - i := List.length_drop
  have htt := total_drop l i
  have hml := total_len (l.drop i)
  have HL2 := Lib.hid hl2
  have e1 : ((l.length : Int) - (i : Int)).toNat = l.length - i := by omega
  have i1 : (i : Int) ≤ (l.length : Int) := by omega
  have i2 : (i : Int) ≤ (cap : Int) := by omega
  have hnI : 0 < l.length - i := by omega
  clear hl hl2
  generalize l.drop i = m at *
  have HMN := Lib.hid hmn
  clear hmn
  go_enter Tryd.func49, Tryd.ntmps49
  go_wp2_with fail
  have hmn := HMN.out
  clear e1 HMN
  generalize l.length - i = n at *
  generalize off + i = of2 at *
  subst hmn
  go_loop [5, 15] (fun o j => ∃ k : Nat, k ≤ m.length ∧ j = .int .i64 k ∧ o = .string (ba (joinL (m.take k)))) (fun _ j => m.length - (intOf j).toNat)
  case atStart => exact ⟨0, Nat.zero_le _, rfl, rfl⟩
  case round =>
    obtain ⟨k, hk, rfl, rfl⟩ := hrel
    have hle := joinL_le (m.take k)
    have hle1 := total_take m k
    by_cases hlt : k < m.length
    · obtain ⟨g2, o2, hao, hc⟩ := HL2.out.get hlt
      cases hao
      have hxl := total_mem (List.getElem_mem hlt)
      have htk : m.take k ++ [m[k]] = m.take (k + 1) := by simp
      have hsn : joinL (m.take (k + 1)) = joinL (m.take k) ++ (if k = 0 then [] else [47]) ++ m[k] := by
        rw [← htk, joinL_snoc]
        by_cases h0 : k = 0
        · subst h0; simp
        · have hne : ¬ m.take k = [] := by
            simp only [List.take_eq_nil_iff, not_or]
            exact ⟨h0, by rintro rfl; simp at hlt⟩
          rw [if_neg hne, if_neg h0]
      have hs1 := size_ba (joinL (m.take k))
      have hs2 := size_ba m[k]
      obtain ⟨x, hx⟩ : ∃ x, x = m[k] := ⟨_, rfl⟩
      rw [← hx] at hc hxl hsn hs2
      have HSN := Lib.hid hsn
      have hb0 : (ba (joinL (m.take k))).size ≤ 1000000 := by omega
      have hb1 : (ba x).size ≤ 1000000 := by omega
      clear hx hsn htk hs1 hs2 hle hle1 hxl
      by_cases h0 : k = 0
      · have hk1 : ¬ 0 < k := by omega
        have H0 := Lib.hid h0
        clear h0
        go_wp2_with fail
        go_round
        case rel => exact ⟨k + 1, by omega, by go_num, str_eq (by rw [HSN.out, if_pos H0.out, bl_append, bl_ba, bl_ba, bl_ba, List.append_nil])⟩
        case measure => simp [intOf]; omega
      · have hk1 : 0 < k := by omega
        go_wp2_with fail
        go_round
        case rel => exact ⟨k + 1, by omega, by go_num, str_eq (by rw [HSN.out, if_neg h0]; simp only [bl_append, bl_ba]; rfl)⟩
        case measure => simp [intOf]; omega
    · have hall : m.take k = m := List.take_of_length_le (by omega)
      have HA := Lib.hid hall
      clear hall
      go_wp2_with fail
      go_ret
      exact ⟨congrArg (fun z => Ending.returned (.string (ba (joinL z)))) HA.out, rfl⟩
end Go.Proofs.YtlmoifeinglaeaaDoor
