/- Trees of routes (layer 8): params. -/
import Derived.Test.YtlmoifeinglaeaaDoorJoin
import Derived.Test.YtlmoifeinglaeaaDoorMatB
import Derived.Test.YtlmoifeinglaeaaDoorParseA
import Derived.Test.YtlmoifeinglaeaaDoorRd
import Derived.Deep.RegionLaw
import Derived.Deep.DrawnRows
namespace Go.Proofs.YtlmoifeinglaeaaDoor
open Go.RowKit
attribute [local go_sem ↓] Go.wp_at_zero Go.wp_at_succ

theorem segR_mem' (r : Rt) : ∀ x ∈ segR r, x.length ≤ r.p.length := by
  intro x hx
  unfold segR patL at hx
  split at hx
  · simp at hx
  · split at hx
    · simp at hx
    · split at hx
      · have := wordsL_mem 47 r.p.tail x hx
        simp at this
        omega
      · simp at hx

/-- What a segment's name stands for. -/
def prm (l : List (List UInt8)) (s : List UInt8) (i : Nat) : List (List UInt8 × List UInt8) :=
  if kindL s = 1 then [(s.tail, l.getD i [])] else if kindL s = 2 then [(s.tail, joinL (l.drop i))] else []
def prmTo (l segs : List (List UInt8)) (k : Nat) : List (List UInt8 × List UInt8) := (List.range k).flatMap fun i => prm l (segs.getD i []) i
def prmL (l segs : List (List UInt8)) : List (List UInt8 × List UInt8) := prmTo l segs segs.length
theorem prmTo_succ (l segs : List (List UInt8)) (k : Nat) : prmTo l segs (k + 1) = prmTo l segs k ++ prm l (segs.getD k []) k := by
  simp [prmTo, List.range_succ]
theorem prmTo_len (l segs : List (List UInt8)) (k : Nat) : (prmTo l segs k).length ≤ k := by
  induction k with
  | zero => simp [prmTo]
  | succ k ih =>
    rw [prmTo_succ, List.length_append]
    have : (prm l (segs.getD k []) k).length ≤ 1 := by unfold prm; split; · simp
                                                       · split <;> simp
    omega
/-- The cells of parameters. -/
def prmC (l : List (List UInt8 × List UInt8)) : List Value := l.flatMap fun x => [.string (ba x.1), .string (ba x.2)]
theorem prmC_snoc (l : List (List UInt8 × List UInt8)) (a b : List UInt8) : prmC l ++ [.string (ba a), .string (ba b)] = prmC (l ++ [(a, b)]) := by simp [prmC]

/-- A pattern that has a path is no longer than the path. -/
theorem hasL_len : ∀ (p l : List (List UInt8)), SegsOk p → hasL p l = true → p.length ≤ l.length
  | [], _, _, _ => Nat.zero_le _
  | _ :: _, [], _, h => by simp [hasL] at h
  | x :: p, y :: l, hs, h => by
    unfold hasL at h
    rw [List.length_cons, List.length_cons]
    split at h
    · rename_i k; rw [hs.2.1 k]; simp
    · split at h
      · rw [Bool.and_eq_true] at h
        have := hasL_len p l hs.2.2 h.2; omega
      · rw [Bool.and_eq_true] at h
        have := hasL_len p l hs.2.2 h.2; omega

theorem info_param : (Tryd.prog.info? 51).map (fun i => (i.zero, i.size, i.bytes)) = some (some (.agg #[.string ByteArray.empty, .string ByteArray.empty]), 2, 32) := by kernel_rfl

theorem cells_str2 (w : World) (a b : Value) (T : TypeId) : ∀ (j : Nat) (u : Value), [a, b][j]? = some u → (w.alloc (.cells #[a, b] T)).cell? ((⟨w.heap.size, 0, none⟩ : Addr).add j) = some u := by
  intro j u hu
  rw [add_none]
  have h := ((St.refl w).alloc (.cells #[a, b] T)).cell (0 + j)
  rw [h, Nat.zero_add]
  simpa using hu
theorem str2_cell (a b : ByteArray) : ∀ u ∈ [Value.string a, .string b], u.oneCell' = true := by
  intro u hu
  simp at hu
  rcases hu with rfl | rfl <;> rfl

/-- What params leaves. -/
def PrmPost (w : World) (ps : List (List UInt8 × List UInt8)) (e : Ending) (w' : World) : Prop :=
  ∃ pa pc, e = .returned (.slice pa ps.length pc) ∧ St w (slo 51 2 pa ps.length pc (prmC ps)) w'

set_option maxRecDepth 100000 in
set_option maxHeartbeats 8000000 in
theorem params_any (r : Rt) (ao : Option Addr) (cap : Nat) (l : List (List UInt8)) (w : World) (hl : Strs w ao l) (hcap : l.length ≤ cap) (ht : total l ≤ 100000) (hfit : hasL (segR r) l = true) (hr : r.p.length ≤ 300000) :
    Calls Tryd.prog 34 #[.agg #[.string (ba r.m), .string (ba r.p), .string (ba r.h)], .slice ao l.length cap] w (PrmPost w (prmL l (segR r))) := by
  obtain ⟨i0, hi, hz0, hz1, hz2⟩ := info_parts info_param
  have hS0 := (St.refl w).alloc (.cells #[.string (ba r.m), .string (ba r.p), .string (ba r.h)] 39)
  have hpat := pattern_any (ba r.p) (w.alloc (.cells #[.string (ba r.m), .string (ba r.p), .string (ba r.h)] 39)) (by rw [size_ba]; omega)
  rw [bl_ba] at hpat
  have hsl := hasL_len _ _ (patL_segs r.p) hfit
  have hlen := total_len l
  have hmem := segR_mem' r
  unfold segR at hsl hmem ⊢
  generalize (patL r.p).1 = segs at *
  have HS0 := Lib.hid hS0
  have HL := Lib.hid hl
  have HM := Lib.hid hmem
  clear hS0 hl hfit hmem
  go_enter Tryd.func34, Tryd.ntmps34
  go_wp2_with (go_at_call 30; refine hpat.mono ?_; rintro e w2 ⟨sa, sc, rfl, hS2⟩; have HST2 := Lib.hid ((HS0.out.rebase hS2)); have HSG := Lib.hid (hS2.eq (SP.mul_one _).symm).strs; clear hS2)
  go_loopg [5, 18] (segs.length + 1) (fun gh o j wr => ∃ (k : Nat) (pa : Option Addr) (pc : Nat), gh = segs.length + 1 - k ∧ k ≤ segs.length ∧ j = .int .i64 k ∧ o = .slice pa (prmTo l segs k).length pc ∧ St w2 (slo 51 2 pa (prmTo l segs k).length pc (prmC (prmTo l segs k)) * 1) wr)
  case atStart => exact ⟨0, none, 0, rfl, Nat.zero_le _, rfl, rfl, (St.refl w2).eq (by simp [prmTo, prmC, slo_nil, SP.mul_one])⟩
  case round =>
    obtain ⟨k, pa, pc, rfl, hk, rfl, rfl, hP⟩ := hrel
    have hpl := prmTo_len l segs k
    have HP := Lib.hid hP
    clear hP
    by_cases hlt : k < segs.length
    · have hsn := prmTo_succ l segs k
      have hgd : segs.getD k [] = segs[k] := by simp [List.getD_eq_getElem?_getD, hlt]
      rw [hgd] at hsn
      obtain ⟨g, off, rfl, c0⟩ := ((HSG.out.step HP.out)).get hlt
      have hxm := HM.out _ (List.getElem_mem hlt)
      obtain ⟨x, hx⟩ : ∃ x, x = segs[k] := ⟨_, rfl⟩
      rw [← hx] at c0 hsn hxm
      have HSN := Lib.hid hsn
      have hkd := kind_any (ba x) wr
      rw [bl_ba] at hkd
      have hsx := size_ba x
      have hkl : k < l.length := by omega
      obtain ⟨g2, o2, rfl, c2⟩ := ((HL.out.step HST2.out).step HP.out).get hkl
      clear hsn hx hgd
      rcases kindL_cases x with h | h | h
      · rw [h] at hkd
        have H := Lib.hid h
        clear h
        go_wp2_with (go_at_call 44; refine hkd.mono ?_; rintro e w' ⟨rfl, rfl⟩)
        go_roundg (segs.length + 1 - (k + 1))
        case measure => omega
        case rel =>
          have e : prmTo l segs (k + 1) = prmTo l segs k := by rw [HSN.out]; simp [prm, H.out]
          exact ⟨k + 1, pa, pc, rfl, by omega, by go_num, by rw [e], by rw [e]; exact HP.out⟩
      · rw [h] at hkd
        have H := Lib.hid h
        have hx1 : 1 ≤ x.length := by cases x with | nil => simp [kindL] at h | cons _ _ => simp
        clear h
        go_wp2_with (go_at_call 44; refine hkd.mono ?_; rintro e w' ⟨rfl, rfl⟩)
        have hex : (ba x).extract 1 x.length = ba x.tail := by
          apply bl_inj
          rw [bl_extract, bl_ba, bl_ba, List.drop_one]
          exact List.take_of_length_le (by rw [List.length_tail]; exact Nat.le_refl _)
        have HEX := Lib.hid hex
        have hkI : (k : Int) < (l.length : Int) := by omega
        have i1 : (1 : Int) ≤ (x.length : Int) := by omega
        have HST := Lib.hid ((HP.out.alloc (.cells #[.string ((ba x).extract 1 x.length), .string (ba l[k])] 51)).drew.eq (SP.mul_left_comm _ _ _))
        clear hex hkd
        go_region_law (refine step_append_slo rfl (.tmp 27) (.tmp 35) 40 rfl i0 (.agg #[.string ByteArray.empty, .string ByteArray.empty]) 32 Tryd.underlying40 hi hz0 hz1 hz2 rfl (by decide) HST.out (by first | (simp [Act.eval]; done) | simp [Act.eval, Act.put]) ⟨wr.heap.size, 0, none⟩ 1 1 [.string ((ba x).extract 1 x.length), .string (ba l[k])] (by first | (simp [Act.eval]; done) | simp [Act.eval, Act.put]) rfl (cells_str2 wr _ _ _) (str2_cell _ _) (by omega) (by unfold maxLen; omega) ?_; intro pa6 pc6 w6 hw6; have HX6 := Lib.hid hw6; clear hw6)
        all_goals
          go_wp2_with fail
          go_roundg (segs.length + 1 - (k + 1))
          case measure => omega
          case rel =>
            have e : prmTo l segs (k + 1) = prmTo l segs k ++ [(x.tail, l[k])] := by
              rw [HSN.out]
              have : l.getD k [] = l[k] := by simp [List.getD_eq_getElem?_getD, hkl]
              simp only [prm, H.out, this]; rfl
            refine ⟨k + 1, pa6, pc6, rfl, by omega, by go_num, by rw [e, List.length_append]; rfl, ?_⟩
            have h6 := HX6.out
            rw [HEX.out, prmC_snoc] at h6
            rw [e, List.length_append]
            exact ((h6.eq (SP.mul_comm _ _)).drop).eq (SP.mul_one _).symm
      · rw [h] at hkd
        have H := Lib.hid h
        have hx1 : 1 ≤ x.length := by cases x with | nil => simp [kindL] at h | cons _ _ => simp
        clear h
        have hjoin := join_any (some ⟨g2, o2, none⟩) cap l k wr.drew (((HL.out.step HST2.out).step HP.out).step (St.refl wr).drew) hkl hcap (by omega)
        go_wp2_with (go_at_call 44; refine hkd.mono ?_; rintro e w' ⟨rfl, rfl⟩)
        have hex : (ba x).extract 1 x.length = ba x.tail := by
          apply bl_inj
          rw [bl_extract, bl_ba, bl_ba, List.drop_one]
          exact List.take_of_length_le (by rw [List.length_tail]; exact Nat.le_refl _)
        have HEX := Lib.hid hex
        have i1 : (1 : Int) ≤ (x.length : Int) := by omega
        have hjl := joinL_le (l.drop k)
        have hjl2 := total_drop l k
        have HST := Lib.hid ((HP.out.alloc (.cells #[.string ((ba x).extract 1 x.length), .string (ba (joinL (l.drop k)))] 51)).drew.eq (SP.mul_left_comm _ _ _))
        clear hex hkd
        generalize hJ : joinL (l.drop k) = J at *
        have HJ := Lib.hid hJ
        clear hJ
        go_region_law (first | (refine step_append_slo rfl (.tmp 39) (.tmp 46) 40 rfl i0 (.agg #[.string ByteArray.empty, .string ByteArray.empty]) 32 Tryd.underlying40 hi hz0 hz1 hz2 rfl (by decide) HST.out (by first | (simp [Act.eval]; done) | simp [Act.eval, Act.put]) ⟨wr.heap.size, 0, none⟩ 1 1 [.string ((ba x).extract 1 x.length), .string (ba J)] (by first | (simp [Act.eval]; done) | simp [Act.eval, Act.put]) rfl (cells_str2 wr _ _ _) (str2_cell _ _) (by omega) (by unfold maxLen; omega) ?_; intro pa6 pc6 w6 hw6; have HX6 := Lib.hid hw6; clear hw6) | (go_simp; go_at_call 49; refine hjoin.mono ?_; rintro e w' ⟨rfl, rfl⟩))
        all_goals
          go_wp2_with fail
          go_roundg (segs.length + 1 - (k + 1))
          case measure => omega
          case rel =>
            have e : prmTo l segs (k + 1) = prmTo l segs k ++ [(x.tail, J)] := by
              rw [HSN.out]
              simp only [prm, H.out, HJ.out]; rfl
            refine ⟨k + 1, pa6, pc6, rfl, by omega, by go_num, by rw [e, List.length_append]; rfl, ?_⟩
            have h6 := HX6.out
            rw [HEX.out, prmC_snoc] at h6
            rw [e, List.length_append]
            exact ((h6.eq (SP.mul_comm _ _)).drop).eq (SP.mul_one _).symm
    · obtain rfl : k = segs.length := by omega
      go_wp2_with fail
      go_ret
      exact ⟨pa, pc, rfl, ((HST2.out.nil.rebase (HP.out.eq (SP.mul_one _)))).eq (SP.mul_one _)⟩
end Go.Proofs.YtlmoifeinglaeaaDoor
