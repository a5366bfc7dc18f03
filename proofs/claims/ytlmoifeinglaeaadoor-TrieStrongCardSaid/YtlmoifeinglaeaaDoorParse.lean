/- Tables of routes (layer 7): Parse, its walk. -/
import Derived.Test.YtlmoifeinglaeaaDoorParseA
import Derived.Deep.RegionLaw
import Derived.WalkMore
namespace Go.Proofs.YtlmoifeinglaeaaDoor
open Go.RowKit Go.ChangeMaps

set_option maxRecDepth 100000 in
set_option maxHeartbeats 8000000 in
theorem parse_any (s : ByteArray) (w : World) (hg : HG w) (hs : s.size ≤ 300000) :
    Calls Tryd.prog 27 #[.string s] w (ParPost w (parseL (bl s)).1 (parseL (bl s)).2) := by
  obtain ⟨i0, hi, hz0, hz1, hz2⟩ := info_parts info_string
  obtain ⟨j0, hj, hy0, hy1, hy2⟩ := info_parts info_route
  have HG0 := Lib.hid hg
  clear hg
  have hwords := words_any s 10 w (by omega)
  have hl1 := wordsL_len 10 (bl s)
  have hl2 := wordsL_mem 10 (bl s)
  rw [len_bl] at hl1
  have hl3 : (wordsL 10 (bl s)).length ≤ 300001 := by omega
  have hl4 : ∀ x ∈ wordsL 10 (bl s), x.length ≤ 300000 := fun x hx => by have := hl2 x hx; rw [len_bl] at this; omega
  have hlpos : 0 < (wordsL 10 (bl s)).length := List.length_pos_iff.2 (wordsL_ne 10 (bl s))
  have HP := Lib.hid (show parseL (bl s) = match linesR (wordsL 10 (bl s)) with | none => ([], 1) | some l => if checkL l = 0 then (l, 0) else ([], checkL l) from rfl)
  generalize parseL (bl s) = pr at *
  clear hl1 hl2
  generalize wordsL 10 (bl s) = l at *
  have HL4 := Lib.hid hl4
  clear hl4
  go_enter Tryd.func27, Tryd.ntmps27
  go_wp2_with fail
  go_step3
  go_wp2_with fail
  go_step3
  go_wp2_with fail
  refine hwords.mono ?_
  rintro e w1 ⟨ao, cap, rfl, hS⟩
  obtain ⟨gb, off, hao, -⟩ := (hS.eq (SP.mul_one _).symm).strs.get hlpos
  subst hao
  have H1 := Lib.hid (hS.eq (SP.mul_one _).symm)
  clear hS
  go_wp2_with fail
  go_loopg [4, 14] (l.length + 1) (fun gh o i wr => ∃ (k : Nat) (out : List Rt) (ao2 : Option Addr) (cap2 : Nat), gh = l.length + 1 - k ∧ k ≤ l.length ∧ o = .slice ao2 out.length cap2 ∧ i = .int .i64 k ∧ LinesAt l out k ∧ out.length ≤ k ∧
    (∀ r ∈ out, r.p.length ≤ 300000 ∧ r.m.length ≤ 1000000) ∧ St w (slo 9 1 (some ⟨gb, off, none⟩) l.length cap (strs l) * (slo 39 3 ao2 out.length cap2 (rtsC out) * 1)) wr)
  case atStart => exact ⟨0, [], none, 0, rfl, Nat.zero_le _, rfl, rfl, LinesAt.start _, Nat.zero_le _, by simp, H1.out.eq (by simp [rtsC, slo_nil, SP.mul_one])⟩
  case round =>
    clear H1
    obtain ⟨k, out, ao2, cap2, rfl, hk, rfl, rfl, hla, hok, hou, hST⟩ := hrel
    have HLA := Lib.hid hla
    have HOU := Lib.hid hou
    have HST := Lib.hid hST
    clear hla hou
    by_cases hlt : k < l.length
    · obtain ⟨g2, off2, hao, hcell⟩ := hST.strs.get hlt
      obtain ⟨rfl, rfl⟩ : gb = g2 ∧ off = off2 := by simpa using hao
      clear hao
      have hxl := HL4.out l[k] (List.getElem_mem hlt)
      have HNO := fun h => Lib.hid (HLA.out.wrong hlt h)
      have HYES := fun a h => Lib.hid (HLA.out.step (a := a) hlt h)
      obtain ⟨x, hx⟩ : ∃ x, x = l[k] := ⟨_, rfl⟩
      rw [← hx] at hcell hxl HNO
      simp only [← hx] at HYES
      clear hST hx
      have HNO' := Lib.hid HNO
      have HYES' := Lib.hid HYES
      clear HNO HYES
      have hwx := words_any (ba x) 32 wr (by rw [size_ba]; omega)
      rw [bl_ba] at hwx
      have hm1 := wordsL_len 32 x
      have hm2 : (wordsL 32 x).length ≤ 300001 := by omega
      have hm4 : ∀ y ∈ wordsL 32 x, y.length ≤ 300000 := fun y hy => by have := wordsL_mem 32 x y hy; omega
      have hmpos : 0 < (wordsL 32 x).length := List.length_pos_iff.2 (wordsL_ne 32 x)
      have HLN := Lib.hid (show lineL x = (wordsL 32 x).filter full from rfl)
      generalize lineL x = ln at *
      clear hm1
      generalize wordsL 32 x = ys at *
      have HM4 := Lib.hid hm4
      clear hm4
      go_wp2_with (go_at_call 43; refine hwx.mono ?_; rintro e w3 ⟨ao3, cap3, rfl, hS3⟩; obtain ⟨g3, off3, hao3, -⟩ := (hS3.eq (SP.mul_one _).symm).strs.get hmpos; subst hao3; have HS3 := Lib.hid (HST.out.rebase hS3); clear hS3)
      go_loopg [7, 21] (ys.length + 1) (fun gh o i wr => ∃ (j : Nat) (ws : List (List UInt8)) (ao4 : Option Addr) (cap4 : Nat), gh = ys.length + 1 - j ∧ j ≤ ys.length ∧ o = .slice ao4 ws.length cap4 ∧ i = .int .i64 j ∧ ws = (ys.take j).filter full ∧
        St w (slo 9 1 (some ⟨g3, off3, none⟩) ys.length cap3 (strs ys) * (slo 9 1 ao4 ws.length cap4 (strs ws) * (slo 9 1 (some ⟨gb, off, none⟩) l.length cap (strs l) * (slo 39 3 ao2 out.length cap2 (rtsC out) * 1)))) wr)
      case atStart => exact ⟨0, [], none, 0, rfl, Nat.zero_le _, rfl, rfl, rfl, HS3.out.eq (by rw [show strs [] = [] from rfl, List.length_nil, slo_nil, SP.one_mul])⟩
      case round =>
        clear HS3 HST hcell
        obtain ⟨j, ws, ao4, cap4, rfl, hjk, rfl, rfl, hws, hST⟩ := hrel
        have HWS := Lib.hid hws
        have HST := Lib.hid hST
        clear hws
        by_cases hjlt : j < ys.length
        · obtain ⟨g4, off4, hao, hcell⟩ := hST.strs.get hjlt
          obtain ⟨rfl, rfl⟩ : g3 = g4 ∧ off3 = off4 := by simpa using hao
          clear hao
          have hft := filter_take hjlt
          obtain ⟨y, hy⟩ : ∃ y, y = ys[j] := ⟨_, rfl⟩
          rw [← hy] at hcell hft
          rw [← HWS.out] at hft
          clear hST hy
          have hwl : ws.length ≤ ys.length := by rw [HWS.out]; exact Nat.le_trans (List.length_filter_le ..) (by simp; omega)
          have hne := full_test y
          cases hfy : full y with
          | false =>
            rw [hfy] at hft
            replace hne : (ba y).toList.isEmpty = !full y := hne
            rw [hfy] at hne
            have HFT := Lib.hid hft
            clear hfy hft
            go_wp2_with fail
            go_roundg (ys.length + 1 - (j + 1))
            case measure => omega
            case rel => exact ⟨j + 1, ws, ao4, cap4, rfl, by omega, rfl, by go_num, by rw [HFT.out]; simp, HST.out⟩
          | true =>
            rw [hfy] at hft
            replace hne : (ba y).toList.isEmpty = !full y := hne
            rw [hfy] at hne
            have HFT := Lib.hid hft
            clear hfy hft
            have HST2 := Lib.hid HST.out.front1
            go_wp2_with (at_builtin; refine wpList_append_slo rfl _ _ 37 rfl i0 (.string ByteArray.empty) 16 Tryd.underlying37 hi hz0 hz1 hz2 rfl (by decide) (HST2.out.alloc1 _) rfl ⟨wr.heap.size, 0, none⟩ 1 1 [.string (ba y)] rfl rfl (cells_one _ _ _) (one_cell _) (by omega) (by unfold maxLen; omega) ?_; intro ao' cap' w5 hw5; have HW5 := Lib.hid hw5; clear hw5)
            have g1 := HW5.out.front1.drop
            rw [strs_snoc'] at g1
            have HG1 := Lib.hid g1.front1
            clear g1
            go_roundg (ys.length + 1 - (j + 1))
            case measure => omega
            case rel => exact ⟨j + 1, ws ++ [y], ao', cap', rfl, by omega, by simp, by go_num, by rw [HFT.out]; simp, HG1.out.eq (by simp)⟩
        · have hws2 : ws = ln := by rw [HWS.out, HLN.out, List.take_of_length_le (by omega)]
          subst hws2
          have HMEM := Lib.hid (show ∀ y ∈ ws, y.length ≤ 300000 from fun y hy => HM4.out y (by rw [HWS.out] at hy; exact (List.take_sublist j ys).subset (List.mem_filter.1 hy).1))
          clear hwx hmpos HWS HLN HM4
          by_cases h0 : ws.length = 0
          · obtain rfl : ws = [] := List.eq_nil_of_length_eq_zero h0
            have HY := HYES'.out [] rfl
            have HST2 := Lib.hid HST.out.drop.drop
            clear hST
            go_wp2_with fail
            go_roundg (l.length + 1 - (k + 1))
            case measure => omega
            case rel => exact ⟨k + 1, out, ao2, cap2, rfl, by omega, rfl, by go_num, by simpa using HY.out, by omega, HOU.out, HST2.out⟩
          · have t0 : ((ws.length : Int) == 0) = false := by rw [beq_eq_false_iff_ne]; omega
            by_cases h3 : ws.length = 3
            · have t3 : ((ws.length : Int) == 3) = true := by rw [beq_iff_eq]; omega
              obtain ⟨wm, wp, wh, rfl⟩ : ∃ a b c, ws = [a, b, c] := by
                match ws, h3 with
                | [a, b, c], _ => exact ⟨a, b, c, rfl⟩
              obtain ⟨g5, off5, hao5, d0⟩ := hST.front1.strs.get (k := 0) (by simp)
              obtain ⟨g6, off6, hao6, d1⟩ := hST.front1.strs.get (k := 1) (by simp)
              obtain ⟨g7, off7, hao7, d2⟩ := hST.front1.strs.get (k := 2) (by simp)
              subst hao5
              obtain ⟨rfl, rfl⟩ : g5 = g6 ∧ off5 = off6 := by simpa using hao6
              obtain ⟨rfl, rfl⟩ : g5 = g7 ∧ off5 = off7 := by simpa using hao7
              replace d0 : wr.cell? ⟨g5, off5, none⟩ = some (.string (ba wm)) := d0
              replace d1 : wr.cell? ⟨g5, off5 + 1, none⟩ = some (.string (ba wp)) := d1
              replace d2 : wr.cell? ⟨g5, off5 + 2, none⟩ = some (.string (ba wh)) := d2
              clear hao6 hao7
              have HY := HYES'.out [⟨wm, wp, wh⟩] rfl
              have HR2 := Lib.hid (HST.out.eq (by ac_rfl : _ = slo 39 3 ao2 out.length cap2 (rtsC out) * (slo 9 1 (some ⟨gb, off, none⟩) l.length cap (strs l) * (slo 9 1 (some ⟨g3, off3, none⟩) ys.length cap3 (strs ys) * slo 9 1 (some ⟨g5, off5, none⟩) [wm, wp, wh].length cap4 (strs [wm, wp, wh]) * 1))))
              have hb1 : (out.length + 1) * 48 ≤ 140737488355328 := by omega
              have hb2 : out.length + 1 ≤ maxLen := by unfold maxLen; omega
              clear hST t0
              go_wp2_with fail
              refine wp_toP (fun a a' w' => ∃ ao5 cap5, a' = ((((((((((((((a.put (some 38) (.slice ao2 out.length cap2)).put (some 39) (.slice (some ⟨g5, off5, none⟩) 3 cap4)).put (some 40) (.pointer (some ⟨g5, off5, none⟩))).put (some 41) (.string (ba wm))).put (some 42) (.slice (some ⟨g5, off5, none⟩) 3 cap4)).put (some 43) (.pointer (some ⟨g5, off5 + 1, none⟩))).put (some 44) (.string (ba wp))).put (some 45) (.slice (some ⟨g5, off5, none⟩) 3 cap4)).put (some 46) (.pointer (some ⟨g5, off5 + 2, none⟩))).put (some 47) (.string (ba wh))).put (some 48) (.agg #[.string (ba wm), .string (ba wp), .string (ba wh)])).put (some 49) (.slice (some ⟨wr.heap.size, 0, none⟩) 1 1)).put (some 50) (.slice ao5 (out.length + 1) cap5)).put (some 4) (.slice ao5 (out.length + 1) cap5)) ∧
                St w (slo 39 3 ao5 (out.length + 1) cap5 (rtsC out ++ [.string (ba wm), .string (ba wp), .string (ba wh)]) * (SP.blk wr.heap.size (.cells #[.string (ba wm), .string (ba wp), .string (ba wh)] 39) * (slo 9 1 (some ⟨gb, off, none⟩) l.length cap (strs l) * (slo 9 1 (some ⟨g3, off3, none⟩) ys.length cap3 (strs ys) * slo 9 1 (some ⟨g5, off5, none⟩) [wm, wp, wh].length cap4 (strs [wm, wp, wh]) * 1)))) w') ?_ ?_
              · go_region_law (refine step_append_slo rfl _ _ 30 rfl j0 (.agg #[.string ByteArray.empty, .string ByteArray.empty, .string ByteArray.empty]) 48 Tryd.underlying30 hj hy0 hy1 hy2 rfl (by decide) ((HR2.out.alloc1 (.cells #[.string (ba wm), .string (ba wp), .string (ba wh)] 39)).drew) rfl ⟨wr.heap.size, 0, none⟩ 1 1 [.string (ba wm), .string (ba wp), .string (ba wh)] rfl rfl (by intro j u hj; exact cells_three wr _ _ _ _ j u hj) (three_cell _ _ _) hb1 hb2 ?_; intro ao5 cap5 w5 hw5; have HW5 := Lib.hid hw5; clear hw5)
                all_goals refine ⟨_, _, ?_, HW5.out⟩
                all_goals simp [Act.put]
              · rintro a' w' ⟨ao5, cap5, rfl, hS5⟩
                rw [rtsC_snoc] at hS5
                have HS5 := Lib.hid (hS5.eq (by ac_rfl : _ = SP.blk wr.heap.size (.cells #[.string (ba wm), .string (ba wp), .string (ba wh)] 39) * (slo 9 1 (some ⟨g3, off3, none⟩) ys.length cap3 (strs ys) * (slo 9 1 (some ⟨g5, off5, none⟩) [wm, wp, wh].length cap4 (strs [wm, wp, wh]) * (slo 9 1 (some ⟨gb, off, none⟩) l.length cap (strs l) * (slo 39 3 ao5 (out.length + 1) cap5 (rtsC (out ++ [⟨wm, wp, wh⟩])) * 1)))))).drop.drop.drop
                clear hS5
                go_wp2_with fail
                go_roundg (l.length + 1 - (k + 1))
                case measure => omega
                case rel => exact ⟨k + 1, out ++ [⟨wm, wp, wh⟩], ao5, cap5, rfl, by omega, by simp, by go_num, HY.out, by simp; omega, by
                    intro r hr
                    rcases List.mem_append.1 hr with h | h
                    · exact HOU.out r h
                    · have hin := fun y hy => HMEM.out y hy
                      simp at h
                      subst h
                      exact ⟨by have := hin wp (by simp); simp only; omega, by have := hin wm (by simp); simp only; omega⟩, HS5.out.eq (by simp)⟩
            · have t3 : ((ws.length : Int) == 3) = false := by rw [beq_eq_false_iff_ne]; omega
              have hno : lineR ws = none := by
                match ws, h0, h3 with
                | [], h0, _ => simp at h0
                | [_], _, _ => rfl
                | [_, _], _, _ => rfl
                | [_, _, _], _, h3 => simp at h3
                | _ :: _ :: _ :: _ :: _, _, _ => rfl
              have HN := HNO'.out hno
              clear hST hno
              go_wp2_with fail
              rw [Exit.noGoto_ret]
              go_ret2
              rw [HP.out, HN.out]
              exact ParPost.no HST.out
    · have hke : k = l.length := by omega
      subst hke
      have HD := Lib.hid HLA.out.done
      have hS2 := hST.drop
      have HR := Lib.hid hS2.rts
      have HS2 := Lib.hid hS2
      clear hS2 hwords hST
      have hch := fun wq (hq : HG wq) (hr : Rts wq ao2 out) => check_any ao2 cap2 out wq hq hr (by omega) HOU.out
      by_cases hc : checkL out = 0
      · have t0 : ((checkL out : Int) != 0) = false := by rw [hc]; rfl
        have HC := Lib.hid hc
        clear hc
        go_wp2_with (go_at_call 38; refine (hch _ (HG0.out.step HST.out) HR.out).mono ?_; rintro e w3 ⟨rfl, hS3⟩; have HS4 := Lib.hid (HS2.out.rebase hS3); clear hS3)
        rw [Exit.noGoto_ret]
        go_ret2
        rw [HP.out, HD.out]
        simp only [HC.out, if_pos]
        exact ⟨ao2, cap2, rfl, HS4.out.eq (by rw [SP.one_mul, SP.mul_one])⟩
      · have t0 : ((checkL out : Int) != 0) = true := by rw [bne_iff_ne]; omega
        have HC := Lib.hid hc
        clear hc
        go_wp2_with (go_at_call 38; refine (hch _ (HG0.out.step HST.out) HR.out).mono ?_; rintro e w3 ⟨rfl, hS3⟩; have HS4 := Lib.hid (HS2.out.rebase hS3); clear hS3)
        rw [Exit.noGoto_ret]
        go_ret2
        rw [HP.out, HD.out]
        simp only [if_neg HC.out]
        exact ParPost.no HS4.out
end Go.Proofs.YtlmoifeinglaeaaDoor
