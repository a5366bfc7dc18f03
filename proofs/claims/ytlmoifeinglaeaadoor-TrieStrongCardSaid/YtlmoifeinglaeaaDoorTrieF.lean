/- Trees of routes (layer 8): word, its loop. -/
import Derived.Test.YtlmoifeinglaeaaDoorTrieH
import Derived.Deep.RegionHeld3
import Derived.Deep.DrawnRows
import Derived.Deep.RegionLaw
namespace Go.Proofs.YtlmoifeinglaeaaDoor
open Go.RowKit
attribute [local go_sem ↓] Go.wp_at_zero Go.wp_at_succ

set_option maxRecDepth 100000 in
set_option maxHeartbeats 4000000 in
theorem word_go (M : Nat) (hMM : M + 1 ≤ 1000000) (hM1 : 1 ≤ M) (p4 p5 : Option Addr) (F : Nd → Nd) (W : World) (hF : ThenOk M p4 p5 F W) (k0 : Nat)
    (ih : ∀ (s : List UInt8), s.length ≤ k0 → ∀ (A : Nat → Prop) (w : World) (P : SP), St W P w → ∀ v t, Rep w M A v t → Calls Tryd.prog 47 #[.pointer v, .string (ba s), fnV p4 p5] w (Made w (M + 1) A (wordT F k0 t s)))
    (s : List UInt8) (hs : s ≠ []) (hsk : s.length ≤ k0 + 1) (hs2 : s.length ≤ 1000000) (A : Nat → Prop) (w : World) (P : SP) (hW : St W P w) (v : Option Addr) (t : Nd) (h : Rep w M A v t) :
    Calls Tryd.prog 47 #[.pointer v, .string (ba s), fnV p4 p5] w (Made w (M + 1) A (wordT F (k0 + 1) t s)) := by
  have hcop := copied_any M (by omega) A v t w h
  have HF := Lib.hid hF
  have HW := Lib.hid hW
  have IH := Lib.hid ih
  have HS := Lib.hid hs
  have h0 : (ba s).toList.isEmpty = false := by rw [toList_bl, bl_ba]; cases s <;> simp_all
  have hcom := fun (a : List UInt8) (wq : World) (ha : a.length ≤ 1000000) => common_any a s wq ha
  clear hF h hW ih hs
  unfold fnV at *
  go_enter Tryd.func47, Tryd.ntmps47
  go_wp2_with (go_at_call 45; refine hcop.mono ?_; rintro e w1 ⟨b, eo, ecap, vn, vp, vr, ro, l, rfl, hO⟩; have HO := Lib.hid hO; have c0 := hO.st.cell 0; simp at c0; unfold adr; clear hO)
  clear c0 hcop
  have hlM : l.length ≤ 1000000 := by have := HO.out.hM; omega
  go_loopg [32] (l.length + 1) (fun gh i wr => ∃ (k : Nat), gh = l.length + 1 - k ∧ k ≤ l.length ∧ i = .int .i64 k ∧ (∀ j (hj : j < l.length), j < k → comm l[j].1 s = 0) ∧ St w1 1 wr)
  case atStart => exact ⟨0, rfl, Nat.zero_le _, rfl, fun j _ hj => absurd hj (Nat.not_lt_zero _), St.refl _⟩
  case round =>
    obtain ⟨k, rfl, hk, rfl, hno, hST⟩ := hrel
    have HNO := Lib.hid hno
    have HX := Lib.hid ((HO.out.st.rebase hST).eq (SP.one_mul _))
    have HST := Lib.hid hST
    clear hno hST
    by_cases hlt : k < l.length
    · obtain ⟨g, off, rfl, c1, c2⟩ := (HX.out.drop.cells).edge hlt
      have hxl := HO.out.hx l[k] (List.getElem_mem hlt)
      obtain ⟨x, hx⟩ : ∃ x, x = l[k] := ⟨_, rfl⟩
      rw [← hx] at c1 c2 hxl
      have HXE := Lib.hid hx
      have HRX := Lib.hid (HO.out.hl l[k] (List.getElem_mem hlt))
      rw [← hx] at HRX
      have hcx := fun wq => hcom x.1 wq hxl
      have hsx := size_ba x.1
      have hwl : wr.heap.size < (wr.alloc (.cells #[.string (ba x.1), .pointer x.2.1] 107)).heap.size := by simp
      clear hx hcom
      by_cases hz : comm x.1 s = 0
      · rw [hz] at hcx
        have HZ := Lib.hid hz
        clear hz
        go_wp2_with (go_at_call 56; refine (hcx _).mono ?_; rintro e w3 ⟨rfl, nn, rfl⟩)
        go_roundg (l.length + 1 - (k + 1))
        case measure => omega
        case rel => exact ⟨k + 1, rfl, by omega, by go_num, fun j hj hjk => by
          by_cases e : j = k
          · subst e; rw [← HXE.out]; exact HZ.out
          · exact HNO.out j hj (by omega), ((HST.out.alloc _).drop).drewN _⟩
      · have t0 : ((comm x.1 s : Int) == 0) = false := by rw [beq_eq_false_iff_ne]; omega
        by_cases hfull : comm x.1 s = x.1.length
        · rw [hfull] at hcx t0
          have t1 : ((x.1.length : Int) == ((ba x.1).size : Int)) = true := by rw [beq_iff_eq, hsx]
          have HFU := Lib.hid hfull
          have HNE := Lib.hid (by intro e; rw [e] at hz; cases s <;> simp [comm] at hz : x.1 ≠ [])
          have HZ := Lib.hid hz
          clear hz hfull
          go_wp2_with (go_at_call 56; refine (hcx _).mono ?_; rintro e w3 ⟨rfl, nn, rfl⟩)
          have hX4 := ((HX.out.alloc (.cells #[.string (ba x.1), .pointer x.2.1] 107)).drewN nn)
          have d2 : ((wr.alloc (.cells #[.string (ba x.1), .pointer x.2.1] 107)).drewN nn).cell? ⟨wr.heap.size, 1, none⟩ = some (.pointer x.2.1) := by rw [hX4.cell]; rfl
          have d0 : ((wr.alloc (.cells #[.string (ba x.1), .pointer x.2.1] 107)).drewN nn).cell? ⟨b, 0, none⟩ = some (.slice (some ⟨g, off, none⟩) l.length ecap) := by rw [(hX4.eq (SP.mul_left_comm _ _ _)).cell]; rfl
          have HX4 := Lib.hid (hX4.eq (by ac_rfl : _ = SP.blk b (.cells #[.slice (some ⟨g, off, none⟩) l.length ecap, .pointer vn, .pointer vp, .pointer vr, .slice ro t.en.length t.en.length] 92) * (slo 107 2 (some ⟨g, off, none⟩) l.length ecap (edC l) * (SP.blk wr.heap.size (.cells #[.string (ba x.1), .pointer x.2.1] 107) * 1))))
          have HST4 := Lib.hid ((HST.out.alloc (.cells #[.string (ba x.1), .pointer x.2.1] 107)).drewN nn)
          clear hX4
          have hcl := comm_le x.1 s
          rw [HFU.out] at hcl
          have hss := size_ba s
          have hdr : (ba s).extract x.1.length s.length = ba (s.drop x.1.length) := by
            apply bl_inj
            rw [bl_extract, bl_ba, bl_ba]
            exact List.take_of_length_le (by rw [List.length_drop]; exact Nat.le_refl _)
          have HDR := Lib.hid hdr
          clear hdr
          generalize (wr.alloc (.cells #[.string (ba x.1), .pointer x.2.1] 107)).drewN nn = w4 at *
          generalize wr.heap.size = eb at *
          have hcall := IH.out (s.drop x.1.length) (by have := List.length_pos_iff.2 HNE.out; rw [List.length_drop]; omega) (fun y => A y ∧ y < w.heap.size) w4.drew _ (HW.out.rebase HX4.out).drew x.2.1 x.2.2 ((HRX.out.step HST4.out).step (St.refl w4).drew)
          rw [← HDR.out] at hcall
          go_region_held3 (fun w' => w'.cell? ⟨b, 0, none⟩ = some (.slice (some ⟨g, off, none⟩) l.length ecap) ∧ w'.cell? ⟨eb, 1, none⟩ = some (.pointer x.2.1)) (first | exact ⟨d0, d2⟩ | exact ⟨f0, f2⟩ | exact ⟨(cell_ne nb).trans f0, (cell_ne ne).trans f2⟩ | go_keep) ((go_at_call 47; refine hcall.mono ?_; rintro e w5 ⟨b2, rfl, hR, hS5⟩; have HR := Lib.hid hR; have HX5 := Lib.hid ((HX4.out.drew.rebase hS5).eq (SP.one_mul _)); have HS5 := Lib.hid hS5; have f0 : w5.cell? ⟨b, 0, none⟩ = some (.slice (some ⟨g, off, none⟩) l.length ecap) := HX5.out.cell 0; have f2 : w5.cell? ⟨eb, 1, none⟩ = some (.pointer x.2.1) := (HX5.out.eq (by ac_rfl : _ = SP.blk eb (.cells #[.string (ba x.1), .pointer x.2.1] 107) * (SP.blk b (.cells #[.slice (some ⟨g, off, none⟩) l.length ecap, .pointer vn, .pointer vp, .pointer vr, .slice ro t.en.length t.en.length] 92) * (slo 107 2 (some ⟨g, off, none⟩) l.length ecap (edC l) * 1)))).cell 1; obtain ⟨-, q1, q2⟩ := (HX5.out.eq (SP.mul_left_comm _ _ _)).edge_at hlt; rw [← HXE.out] at q1; have nb := (HX5.out.eq (SP.mul_left_comm _ _ _)).slo_ne; have ne := (HX5.out.eq (by ac_rfl : _ = slo 107 2 (some ⟨g, off, none⟩) l.length ecap (edC l) * (SP.blk eb (.cells #[.string (ba x.1), .pointer x.2.1] 107) * (SP.blk b (.cells #[.slice (some ⟨g, off, none⟩) l.length ecap, .pointer vn, .pointer vp, .pointer vr, .slice ro t.en.length t.en.length] 92) * 1)))).slo_ne; unfold adr; clear hR hS5))
          go_wp2_with fail
          go_ret
          have hx := HXE.out
          subst hx
          have h15 := HST4.out.drew.rebase HS5.out
          have hw4 := HST4.out.size
          exact word_full hMM HS.out HO.out h15 hlt HNO.out HZ.out HFU.out (HR.out.more (Nat.le_refl _) fun y hy _ => by
            rcases hy with hy | hy
            · exact .inl hy
            · exact .inr (Nat.le_trans hw4 hy)) HX5.out
        · obtain ⟨c, hc⟩ : ∃ c, c = comm x.1 s := ⟨_, rfl⟩
          have hcl := comm_le x.1 s
          rw [← hc] at hcx t0 hcl
          have hss := size_ba s
          have t1 : ((c : Int) == ((ba x.1).size : Int)) = false := by rw [beq_eq_false_iff_ne, hsx]; omega
          have HFU := Lib.hid hfull
          have HZ := Lib.hid hz
          have HC := Lib.hid hc
          clear hz hfull hc
          go_wp2_with (go_at_call 56; refine (hcx _).mono ?_; rintro e w3 ⟨rfl, nn, rfl⟩)
          have hX4 := ((HX.out.alloc (.cells #[.string (ba x.1), .pointer x.2.1] 107)).drewN nn)
          have d1 : ((wr.alloc (.cells #[.string (ba x.1), .pointer x.2.1] 107)).drewN nn).cell? ⟨wr.heap.size, 0, none⟩ = some (.string (ba x.1)) := by rw [hX4.cell]; rfl
          have d2 : ((wr.alloc (.cells #[.string (ba x.1), .pointer x.2.1] 107)).drewN nn).cell? ⟨wr.heap.size, 1, none⟩ = some (.pointer x.2.1) := by rw [hX4.cell]; rfl
          have HX4 := Lib.hid (hX4.eq (by ac_rfl : _ = SP.blk b (.cells #[.slice (some ⟨g, off, none⟩) l.length ecap, .pointer vn, .pointer vp, .pointer vr, .slice ro t.en.length t.en.length] 92) * (slo 107 2 (some ⟨g, off, none⟩) l.length ecap (edC l) * (SP.blk wr.heap.size (.cells #[.string (ba x.1), .pointer x.2.1] 107) * 1))))
          have HST4 := Lib.hid ((HST.out.alloc (.cells #[.string (ba x.1), .pointer x.2.1] 107)).drewN nn)
          clear hX4
          generalize (wr.alloc (.cells #[.string (ba x.1), .pointer x.2.1] 107)).drewN nn = w4 at *
          generalize wr.heap.size = eb at *
          have := World.new_ne w4 _ d1
          have := World.new_ne w4 _ d2
          go_region_held3 (fun w' => w'.cell? ⟨eb, 0, none⟩ = some (.string (ba x.1)) ∧ w'.cell? ⟨eb, 1, none⟩ = some (.pointer x.2.1)) (first | exact ⟨d1, d2⟩ | go_keep) (fail)
          go_wp2_with fail
          have hex : (ba x.1).extract c x.1.length = ba (x.1.drop c) := by
            apply bl_inj
            rw [bl_extract, bl_ba, bl_ba]
            exact List.take_of_length_le (by rw [List.length_drop]; exact Nat.le_refl _)
          have hdr : (ba s).extract c s.length = ba (s.drop c) := by
            apply bl_inj
            rw [bl_extract, bl_ba, bl_ba]
            exact List.take_of_length_le (by rw [List.length_drop]; exact Nat.le_refl _)
          have htk : (ba x.1).extract 0 c = ba (x.1.take c) := by
            apply bl_inj
            rw [bl_extract, bl_ba, bl_ba]
            rfl
          have hmid := mid_rep hM1 (x.1.drop c) (by rw [List.length_drop]; omega) x.2.1 x.2.2 (HRX.out.step HST4.out)
          rw [← hex] at hmid
          have HMID := Lib.hid hmid
          have g1 := St.alloc HX4.out (.cells #[.string ((ba x.1).extract c x.1.length), .pointer x.2.1] 107)
          have g2 := (g1.alloc (.cells #[.slice (some ⟨w4.heap.size, 0, none⟩) 1 1, .pointer none, .pointer none, .pointer none, .slice none 0 0] 92)).drop.drop.drew
          have HX6 := Lib.hid g2
          have g3 := St.alloc HST4.out (.cells #[.string ((ba x.1).extract c x.1.length), .pointer x.2.1] 107)
          have g4 := (g3.alloc (.cells #[.slice (some ⟨w4.heap.size, 0, none⟩) 1 1, .pointer none, .pointer none, .pointer none, .slice none 0 0] 92)).drew
          have HST6 := Lib.hid g4
          have hle4 : w1.heap.size ≤ w4.heap.size := HST4.out.size
          have HEX := Lib.hid hex
          have HDR := Lib.hid hdr
          have HTK := Lib.hid htk
          have HNE := Lib.hid (fun e => HZ.out (by rw [e]; rfl) : x.1 ≠ [])
          clear hex hdr htk hmid g1 g2 g3 g4 d1 d2
          clear HX4 HST4
          have d1 : (((w4.alloc (.cells #[.string ((ba x.1).extract c x.1.length), .pointer x.2.1] 107)).alloc (.cells #[.slice (some ⟨w4.heap.size, 0, none⟩) 1 1, .pointer none, .pointer none, .pointer none, .slice none 0 0] 92)).drew).cell? ⟨b, 0, none⟩ = some (.slice (some ⟨g, off, none⟩) l.length ecap) := HX6.out.cell 0
          have d2 : (((w4.alloc (.cells #[.string ((ba x.1).extract c x.1.length), .pointer x.2.1] 107)).alloc (.cells #[.slice (some ⟨w4.heap.size, 0, none⟩) 1 1, .pointer none, .pointer none, .pointer none, .slice none 0 0] 92)).drew).cell? ⟨eb, 0, none⟩ = some (.string (ba x.1)) := (HX6.out.eq (by ac_rfl : _ = SP.blk eb (.cells #[.string (ba x.1), .pointer x.2.1] 107) * (SP.blk b (.cells #[.slice (some ⟨g, off, none⟩) l.length ecap, .pointer vn, .pointer vp, .pointer vr, .slice ro t.en.length t.en.length] 92) * (slo 107 2 (some ⟨g, off, none⟩) l.length ecap (edC l) * 1)))).cell 0
          have HMID2 := Lib.hid (HMID.out.step (St.refl _).drew)
          clear HMID
          generalize ((w4.alloc (.cells #[.string ((ba x.1).extract c x.1.length), .pointer x.2.1] 107)).alloc (.cells #[.slice (some ⟨w4.heap.size, 0, none⟩) 1 1, .pointer none, .pointer none, .pointer none, .slice none 0 0] 92)).drew = w7 at *
          generalize w4.heap.size = mb at *
          have hcall := IH.out (s.drop c) (by have h9 := HZ.out; rw [← HC.out] at h9; rw [List.length_drop]; omega) _ w7.drew _ (HW.out.rebase HX6.out).drew (adr (mb + 1)) _ (HMID2.out.step (St.refl w7).drew)
          rw [← HDR.out] at hcall
          unfold adr at hcall
          go_region_held3 (fun w' => w'.cell? ⟨b, 0, none⟩ = some (.slice (some ⟨g, off, none⟩) l.length ecap) ∧ w'.cell? ⟨eb, 0, none⟩ = some (.string (ba x.1))) (first | exact ⟨d1, d2⟩ | exact ⟨f0, f2⟩ | exact ⟨(cell_ne nb).trans ((cell_ne nb).trans f0), (cell_ne ne).trans ((cell_ne ne).trans f2)⟩ | go_keep) ((go_at_call 47; refine hcall.mono ?_; rintro e w5 ⟨b2, rfl, hR, hS5⟩; have HR := Lib.hid hR; have HX5 := Lib.hid ((HX6.out.drew.rebase hS5).eq (SP.one_mul _)); have HS5 := Lib.hid hS5; have f0 : w5.cell? ⟨b, 0, none⟩ = some (.slice (some ⟨g, off, none⟩) l.length ecap) := HX5.out.cell 0; have f2 : w5.cell? ⟨eb, 0, none⟩ = some (.string (ba x.1)) := (HX5.out.eq (by ac_rfl : _ = SP.blk eb (.cells #[.string (ba x.1), .pointer x.2.1] 107) * (SP.blk b (.cells #[.slice (some ⟨g, off, none⟩) l.length ecap, .pointer vn, .pointer vp, .pointer vr, .slice ro t.en.length t.en.length] 92) * (slo 107 2 (some ⟨g, off, none⟩) l.length ecap (edC l) * 1)))).cell 0; obtain ⟨⟨p1, p2⟩, q1, q2⟩ := (HX5.out.eq (SP.mul_left_comm _ _ _)).edge_at hlt; rw [← HXE.out] at p1 q1; have nb := (HX5.out.eq (SP.mul_left_comm _ _ _)).slo_ne; have ne := (HX5.out.eq (by ac_rfl : _ = slo 107 2 (some ⟨g, off, none⟩) l.length ecap (edC l) * (SP.blk eb (.cells #[.string (ba x.1), .pointer x.2.1] 107) * (SP.blk b (.cells #[.slice (some ⟨g, off, none⟩) l.length ecap, .pointer vn, .pointer vp, .pointer vr, .slice ro t.en.length t.en.length] 92) * 1)))).slo_ne; unfold adr; clear hR hS5))
          go_wp2_with fail
          go_ret
          have hx := HXE.out
          subst hx
          have h15 := HST6.out.drew.rebase HS5.out
          have hcc := HC.out
          subst hcc
          have hfin := word_part (k0 := k0) (F := F) (b2 := b2) hMM HS.out HO.out h15 hlt HNO.out HZ.out HFU.out (HR.out.more (Nat.le_refl _) fun y hy _ => by
            rcases hy with (hy | hy) | hy
            · exact .inl hy
            · exact .inr (Nat.le_trans hle4 hy)
            · exact .inr (Nat.le_trans HST6.out.size hy)) HX5.out
          rw [← HTK.out] at hfin
          exact hfin
    · obtain rfl : k = l.length := by omega
      obtain ⟨j0, hj, hy0, hy1, hy2⟩ := info_parts info_edge
      have hcall := IH.out [] (Nat.zero_le _) (fun y => A y ∧ y < w.heap.size) wr.drew _ (HW.out.rebase HX.out).drew none .nil .nil
      have hba : ba [] = ⟨#[]⟩ := rfl
      rw [hba] at hcall
      have d0 : wr.cell? ⟨b, 0, none⟩ = some (.slice eo l.length ecap) := HX.out.cell 0
      clear hba
      go_wp2_with fail
      go_region_law (first | (refine step_append_slo rfl (.tmp 97) (.tmp 103) 90 rfl j0 (.agg #[.string ByteArray.empty, .pointer none]) 24 Tryd.underlying90 hj hy0 hy1 hy2 rfl (by decide) ((HK5.out.alloc (.cells #[.string (ba s), .pointer (adr b2)] 107)).eq (by ac_rfl : _ = slo 107 2 eo l.length ecap (edC l) * (SP.blk b (.cells #[.slice eo l.length ecap, .pointer vn, .pointer vp, .pointer vr, .slice ro t.en.length t.en.length] 92) * (SP.blk w5.heap.size (.cells #[.string (ba s), .pointer (adr b2)] 107) * SP.keep (Bel w w1 A) w w5)))) (by simp [Act.eval]) ⟨w5.heap.size, 0, none⟩ 1 1 [.string (ba s), .pointer (adr b2)] (by simp [Act.eval]) rfl (cells_two w5 _ _ _) (two_cell _ _) (by omega) (by unfold maxLen; omega) ?_; intro ao' cap' w6 hw6; have HX6 := Lib.hid hw6; clear hw6; have f0 := (HX6.out.eq (SP.mul_left_comm _ _ _)).cell 0; have ff := (HX6.out.eq (SP.mul_left_comm _ _ _)).free 0; simp at f0) | (go_simp; go_at_call 47; refine hcall.mono ?_; rintro e w5 ⟨b2, rfl, hR, hS5⟩; have HR := Lib.hid hR; have HX5 := Lib.hid ((HX.out.drew.rebase hS5).eq (SP.one_mul _)); have HS5 := Lib.hid hS5; have f0 : w5.cell? ⟨b, 0, none⟩ = some (.slice eo l.length ecap) := HX5.out.cell 0; have HK5 := Lib.hid (HX5.out.keepIn (SP.off_mul (SP.off_blk HO.out.apartb) (SP.off_mul (SP.off_slo (fun g off e => HO.out.apart e)) SP.off_one))); have f1 : (w5.alloc (.cells #[.string (ba s), .pointer (some ⟨b2, 0, none⟩)] 107)).cell? ⟨b, 0, none⟩ = some (.slice eo l.length ecap) := ((HX5.out.alloc _).eq (SP.mul_left_comm _ _ _)).cell 0; unfold adr; clear hR hS5))
      all_goals
        go_wp2_with fail
        go_ret
        have h6 := (HX6.out.eq (SP.mul_left_comm _ _ _)).setCell (i := 0) (.slice ao' (l.length + 1) cap')
        have hk : Keeps (Bel w w1 A) w5 w6 := fun x o hx ho => St.kept (HX6.out.eq (by ac_rfl : _ = (slo 107 2 ao' (l.length + 1) cap' (edC l ++ [.string (ba s), .pointer (adr b2)]) * (SP.blk b (.cells #[.slice eo l.length ecap, .pointer vn, .pointer vp, .pointer vr, .slice ro t.en.length t.en.length] 92) * SP.blk w5.heap.size (.cells #[.string (ba s), .pointer (adr b2)] 107))) * SP.keep (Bel w w1 A) w w5)) HX5.out hx ho
        have hle : w1.heap.size ≤ wr.heap.size := HST.out.size
        exact word_new (k0 := k0) hMM HS.out hs2 HO.out (HST.out.drew.rebase HS5.out) (fun x o hx ho => keeps_set HO.out.apartb x o hx (hk x o hx ho)) (fun j hj => HNO.out j hj hj) (HR.out.more (Nat.le_refl _) fun y hy _ => by
            rcases hy with hy | hy
            · exact .inl hy
            · exact .inr (Nat.le_trans hle hy)) h6
end Go.Proofs.YtlmoifeinglaeaaDoor
