/- Tables of routes (layer 7): Check, its walk. -/
import Derived.Test.YtlmoifeinglaeaaDoorCheck
import Derived.Test.YtlmoifeinglaeaaDoorTo
import Derived.Deep.RegionWith
namespace Go.Proofs.YtlmoifeinglaeaaDoor
open Go.RowKit Go.ChangeMaps

set_option maxRecDepth 100000 in
set_option maxHeartbeats 8000000 in
theorem check_any (ao : Option Addr) (cap : Nat) (l : List Rt) (w : World) (hg : HG w) (hl : Rts w ao l) (hn : l.length ≤ 1000000) (hb : ∀ r ∈ l, r.p.length ≤ 300000 ∧ r.m.length ≤ 1000000) :
    Calls Tryd.prog 38 #[.slice ao l.length cap] w fun e w' => e = .returned (.int .i64 (checkL l : Nat)) ∧ St w 1 w' := by
  have HG0 := Lib.hid hg
  have HL := Lib.hid hl
  have HB := Lib.hid hb
  clear hl hg hb
  have hmm := @run_makeMap Tryd.prog
  go_enter Tryd.func38, Tryd.ntmps38
  go_wp2_with fail
  have hS1 : St w (mg fky w.heap.size [] * 1) (w.alloc (.map #[] 0)) := (St.refl w).mg_made fky
  have H1 := Lib.hid hS1
  clear hS1
  generalize w.alloc (.map #[] 0) = w1 at *
  generalize w.heap.size = mb at *
  clear hmm
  go_loopg [14] (l.length + 1) (fun gh i wr => ∃ (k : Nat), gh = l.length + 1 - k ∧ k ≤ l.length ∧ i = .int .i64 k ∧ (l.take k).all rightB = true ∧ St w (mg fky mb [] * 1) wr)
  case atStart => exact ⟨0, rfl, Nat.zero_le _, rfl, rfl, H1.out⟩
  case round =>
    clear H1
    obtain ⟨k, rfl, hk, rfl, ho, hST⟩ := hrel
    have HO := Lib.hid ho
    have HST := Lib.hid hST
    clear ho
    by_cases hlt : k < l.length
    · obtain ⟨g, off, hao, c1, c2, c3⟩ := (HL.out.step hST).get hlt
      obtain ⟨x, hx⟩ : ∃ x, x = l[k] := ⟨_, rfl⟩
      have hbx := HB.out l[k] (List.getElem_mem hlt)
      rw [← hx] at c1 c2 c3 hbx
      have htk : l.take (k + 1) = l.take k ++ [x] := take_snoc' l k x (by rw [hx]; simp)
      have hright := fun wq (hq : HG wq) => right_any x wq hq (by omega) (by omega)
      have HT := Lib.hid htk
      have HX := Lib.hid (show x ∈ l by rw [hx]; exact List.getElem_mem hlt)
      subst hao
      clear hST hx hbx htk
      cases hrb : rightB x with
      | false =>
        rw [hrb] at hright
        have hfin : checkL l = 1 := by
          have : l.all rightB = false := List.all_eq_false.2 ⟨x, HX.out, by simp [hrb]⟩
          unfold checkL
          rw [this]; rfl
        have HF := Lib.hid hfin
        clear hfin hrb
        go_wp2_with (go_at_call 22; refine (hright _ (HG0.out.step (HST.out.alloc _))).mono ?_; rintro e w3 ⟨rfl, hS3⟩; have HS3 := Lib.hid ((HST.out.alloc _).rebase hS3); clear hS3)
        go_ret
        exact ⟨by rw [HF.out]; rfl, HS3.out.nil⟩
      | true =>
        rw [hrb] at hright
        have HR := Lib.hid hrb
        clear hrb
        go_wp2_with (go_at_call 22; refine (hright _ (HG0.out.step (HST.out.alloc _))).mono ?_; rintro e w3 ⟨rfl, hS3⟩; have HS3 := Lib.hid ((HST.out.alloc _).rebase hS3); clear hS3)
        go_roundg (l.length + 1 - (k + 1))
        case measure => omega
        case rel => exact ⟨k + 1, rfl, by omega, by go_num, by rw [HT.out, List.all_append, HO.out]; simp [HR.out], HS3.out.drop.drop⟩
    · have hall : l.all rightB = true := by rw [← HO.out, List.take_of_length_le (by omega)]
      have HALL := Lib.hid hall
      have hke : k = l.length := by omega
      subst hke
      clear hall hST hlt
      by_cases hlen : 24 < l.length
      · have hfin : checkL l = 2 := by unfold checkL; rw [HALL.out, if_pos rfl, if_pos hlen]
        have HF := Lib.hid hfin
        clear hfin
        go_wp2_with fail
        go_ret
        exact ⟨by rw [HF.out]; rfl, HST.out.nil⟩
      · have hfin : checkL l = if (l.map keyR).Nodup then 0 else 3 := by unfold checkL; rw [HALL.out, if_pos rfl, if_neg hlen]
        have HF := Lib.hid hfin
        clear hfin
        go_wp2_with fail
        go_loopg [27] (l.length + 1) (fun gh i wr => ∃ (k : Nat), gh = l.length + 1 - k ∧ k ≤ l.length ∧ i = .int .i64 k ∧ ((l.take k).map keyR).Nodup ∧ St w (mg fky mb (((l.take k).map keyR).map fun x => (x, Value.bool true)) * 1) wr)
        case atStart => exact ⟨0, rfl, Nat.zero_le _, rfl, List.nodup_nil, HST.out⟩
        case round =>
          clear HST HO
          obtain ⟨k, rfl, hk, rfl, ho, hST⟩ := hrel
          have HO := Lib.hid ho
          have HST := Lib.hid hST
          clear ho
          by_cases hlt : k < l.length
          · obtain ⟨g, off, hao, c1, c2, c3⟩ := (HL.out.step hST).get hlt
            obtain ⟨x, hx⟩ : ∃ x, x = l[k] := ⟨_, rfl⟩
            have hbx := HB.out l[k] (List.getElem_mem hlt)
            rw [← hx] at c1 c2 c3 hbx
            have htk : l.take (k + 1) = l.take k ++ [x] := take_snoc' l k x (by rw [hx]; simp)
            have hpat := fun wq => pattern_any (ba x.p) wq (by rw [size_ba]; omega)
            simp only [bl_ba] at hpat
            have hsh := fun ao2 cap2 wq (hq : Strs wq ao2 (patL x.p).1) => shape_any ao2 cap2 (patL x.p).1 wq hq (by have := patL_len x.p; omega) (by have := patL_total x.p; omega)
            have HT := Lib.hid htk
            have HKEY := Lib.hid (show keyR x = (x.m, shapeL (patL x.p).1) from rfl)
            subst hao
            clear hST hx hbx htk
            generalize shapeL (patL x.p).1 = shp at *
            go_wp2_with (go_at_call 30; refine (hpat _).mono ?_; rintro e w3 ⟨ao3, cap3, rfl, hS3⟩; have HS3 := Lib.hid ((HST.out.alloc _).rebase hS3); clear hS3)
            have hc0 : w3.cell? ⟨wr.heap.size, 0, none⟩ = some (.string (ba x.m)) := by rw [(HS3.out.eq (SP.mul_left_comm _ _ _)).cell]; rfl
            have hlt3 : wr.heap.size < w3.heap.size := (HS3.out.eq (SP.mul_left_comm _ _ _)).lt
            have HSTR := Lib.hid HS3.out.strs
            have HS4 := Lib.hid HS3.out.drop.drop
            generalize wr.heap.size = rb at *
            clear c1 c2 c3 HS3 HST hpat
            generalize (patL x.p).1 = l1 at *
            generalize (patL x.p).2 = b1 at *
            refine wp_to (fun a => (((((a.put (some 37) (.pointer (some ⟨rb, 0, none⟩))).put (some 38) (.string (ba x.m))).put (some 39) (.slice ao3 l1.length cap3)).put (some 40) (.string (ba shp))).put (some 41) (.agg #[.string (ba x.m), .string (ba shp)])).put (some 10) (.pointer (some ⟨w3.heap.size, 0, none⟩)))
              (w3.alloc (.cells #[.string (ba x.m), .string (ba shp)] 104)).drew ?_ ?_
            · go_region_with (go_at_call 54; refine (hsh _ _ _ (by first | exact HSTR.out | exact HSTR.out.step (St.refl _).drew | exact HSTR.out.step ((St.refl _).alloc _).drew | exact HSTR.out.step ((St.refl _).drew.alloc _))).mono ?_; rintro e w4 ⟨rfl, rfl⟩)
              all_goals refine ⟨?_, rfl⟩
              all_goals simp [Act.put]
            have hS5 := ((HS4.out.alloc1 (.cells #[.string (ba x.m), .string (ba shp)] 104)).drew)
            have hc1 : (w3.alloc (.cells #[.string (ba x.m), .string (ba shp)] 104)).drew.cell? ⟨w3.heap.size, 0, none⟩ = some (.string (ba x.m)) := by rw [(hS5.eq (SP.mul_left_comm _ _ _)).cell]; rfl
            have hc2 : (w3.alloc (.cells #[.string (ba x.m), .string (ba shp)] 104)).drew.cell? ⟨w3.heap.size, 1, none⟩ = some (.string (ba shp)) := by rw [(hS5.eq (SP.mul_left_comm _ _ _)).cell]; rfl
            have HS5 := Lib.hid hS5
            clear hS5 hc0 hlt3 hsh HSTR HS4
            generalize (w3.alloc (.cells #[.string (ba x.m), .string (ba shp)] 104)).drew = w5 at *
            generalize w3.heap.size = kb at *
            have hlk := lg_keys ((l.take k).map keyR) (keyR x)
            have HEQ := Lib.hid (show fky (keyR x) = .agg #[.string (ba x.m), .string (ba shp)] by rw [HKEY.out]; rfl)
            by_cases hin : keyR x ∈ (l.take k).map keyR
            · have hfin : checkL l = 3 := by
                rw [HF.out, if_neg]
                intro hnd
                have h1 : ((l.take (k + 1)).map keyR).Nodup := hnd.sublist ((List.take_sublist (k + 1) l).map keyR)
                rw [HT.out, List.map_append, List.nodup_append] at h1
                exact h1.2.2 _ hin _ (by simp) rfl
              have HF3 := Lib.hid hfin
              rw [if_pos hin] at hlk
              replace hlk : (lg (((l.take k).map keyR).map fun x => (x, Value.bool true)) (keyR x)).getD (.bool false) = .bool true := by rw [hlk]; rfl
              clear hfin hin
              go_wp2_with (at_lookup; go_loud (refine wpList_lookup_mg (by rfl) _ _ 102 rfl Tryd.underlying102 keyLaw_field (.bool false) (zero_bool _) HS5.out rfl (keyR x) HEQ.out.symm ?_; intro v hv; rw [hlk] at hv; subst hv))
              go_ret
              exact ⟨by rw [HF3.out]; rfl, HS5.out.nil⟩
            · rw [if_neg hin] at hlk
              have hno : Hid (lg (((l.take k).map keyR).map fun x => (x, Value.bool true)) (keyR x) = none) := hlk
              replace hlk : (lg (((l.take k).map keyR).map fun x => (x, Value.bool true)) (keyR x)).getD (.bool false) = .bool false := by rw [hlk]; rfl
              have HIN := Lib.hid hin
              clear hin
              go_wp2_with (first | (at_lookup; go_loud (refine wpList_lookup_mg (by rfl) _ _ 102 rfl Tryd.underlying102 keyLaw_field (.bool false) (zero_bool _) HS5.out rfl (keyR x) HEQ.out.symm ?_; intro v hv; rw [hlk] at hv; subst hv)) | (at_mapUpdate; refine wpList_update_mg rfl _ _ _ 102 rfl Tryd.underlying102 keyLaw_field HS5.out rfl (keyR x) HEQ.out.symm (.bool true) rfl hno.out ?_; intro w6 hw6; have HW6 := Lib.hid hw6; clear hw6))
              go_roundg (l.length + 1 - (k + 1))
              case measure => omega
              case rel => exact ⟨k + 1, rfl, by omega, by go_num, by
                  rw [HT.out, List.map_append, List.nodup_append]
                  refine ⟨HO.out, by simp, fun a ha b hb e => HIN.out ?_⟩
                  simp at hb
                  rw [← hb, ← e]; exact ha,
                (HW6.out.eq (by rw [HT.out, List.map_append, List.map_append]; rfl : _ = mg fky mb (((l.take (k + 1)).map keyR).map fun x => (x, Value.bool true)) * (SP.blk kb _ * 1))).front1.drop⟩
          · have hfin : checkL l = 0 := by rw [HF.out, if_pos]; rw [← List.take_of_length_le (show l.length ≤ k by omega)]; exact HO.out
            have HF3 := Lib.hid hfin
            clear hfin
            go_wp2_with fail
            go_ret
            exact ⟨by rw [HF3.out]; rfl, HST.out.nil⟩
end Go.Proofs.YtlmoifeinglaeaaDoor
