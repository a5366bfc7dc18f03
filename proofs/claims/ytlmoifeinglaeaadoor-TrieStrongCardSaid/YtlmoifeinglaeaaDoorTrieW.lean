/- Trees of routes (layer 8): With, Len. -/
import Derived.Test.YtlmoifeinglaeaaDoorTrieK
import Derived.Test.YtlmoifeinglaeaaDoorMatB
namespace Go.Proofs.YtlmoifeinglaeaaDoor
open Go.RowKit
attribute [local go_sem ↓] Go.wp_at_zero Go.wp_at_succ

/-- The pointer is a tree of these routes. -/
def TrieAt (w : World) (A : Nat → Prop) (v : Option Addr) (L : List Rt) : Prop :=
  (v = none ∧ L = []) ∨ ∃ b vr, v = adr b ∧ A b ∧ w.heap[b]? = some (.cells #[.pointer vr, .int .i64 (L.length : Nat)] 74 (0, 0)) ∧ Rep w (L.length + 1) A vr (buildT segR L)

theorem TrieAt.keep {w w' : World} {A : Nat → Prop} {v : Option Addr} {L : List Rt} (h : TrieAt w A v L) (hk : Keeps A w w') : TrieAt w' A v L := by
  rcases h with h | ⟨b, vr, h1, h2, h3, h4⟩
  · exact .inl h
  · exact .inr ⟨b, vr, h1, h2, hk _ _ h2 h3, h4.keep hk⟩
theorem TrieAt.step {w w' : World} {A : Nat → Prop} {v : Option Addr} {L : List Rt} {P : SP} (h : TrieAt w A v L) (hS : St w P w') : TrieAt w' A v L := h.keep (.of_st hS)
theorem TrieAt.more {w : World} {A B : Nat → Prop} {v : Option Addr} {L : List Rt} (h : TrieAt w A v L) (hAB : ∀ b, A b → b < w.heap.size → B b) : TrieAt w B v L := by
  rcases h with h | ⟨b, vr, h1, h2, h3, h4⟩
  · exact .inl h
  · exact .inr ⟨b, vr, h1, hAB b h2 (Array.getElem?_eq_some_iff.1 h3).1, h3, h4.more (Nat.le_refl _) hAB⟩

theorem build_snoc (L : List Rt) (r : Rt) : buildT segR (L ++ [r]) = putT (segR r) r (buildT segR L) := by simp [buildT]

theorem segR_mem (r : Rt) : ∀ x ∈ segR r, x.length ≤ r.p.length := by
  intro x hx
  unfold segR patL at hx
  split at hx
  · simp at hx
  · split at hx
    · simp at hx
    · split at hx
      · have := wordsL_mem 47 r.p.tail x hx
        simp at this
        omega
      · simp at hx

/-- Where the nodes of a tree in the making lie. -/
def Wof (w : World) (A : Nat → Prop) (x : Nat) : Prop := (A x ∧ x < w.heap.size) ∨ w.heap.size < x

theorem SP.rot_last (a b c : SP) : a * (b * (c * 1)) = c * (a * b) := by ac_rfl

/-- With's loop at its head. -/
def WithAt (w : World) (A : Nat → Prop) (L l : List Rt) (gh : Nat) (i : Value) (wr : World) : Prop :=
  ∃ (k : Nat) (vr : Option Addr), gh = l.length + 1 - k ∧ k ≤ l.length ∧ i = .int .i64 k ∧ St w (SP.blk w.heap.size (.cells #[.pointer vr, .int .i64 (L.length + k : Nat)] 74) * 1) wr ∧ Rep wr (L.length + k + 1) (Wof w A) vr (buildT segR (L ++ l.take k))

theorem WithAt.start {w : World} {A : Nat → Prop} {L l : List Rt} {vr : Option Addr} (h : Rep w (L.length + 1) (fun x => A x ∧ x < w.heap.size) vr (buildT segR L)) :
    WithAt w A L l (l.length + 1) (.int .i64 0) (w.alloc (.cells #[.pointer vr, .int .i64 (L.length : Nat)] 74)) := by
  have hS := (St.refl w).alloc (.cells #[.pointer vr, .int .i64 (L.length : Nat)] 74)
  refine ⟨0, vr, rfl, Nat.zero_le _, rfl, hS, ?_⟩
  simpa using (h.step hS).more (Nat.le_refl _) fun y hy _ => .inl hy

set_option maxRecDepth 100000 in
set_option maxHeartbeats 8000000 in
theorem with_any (A : Nat → Prop) (v : Option Addr) (L : List Rt) (ao : Option Addr) (cap : Nat) (l : List Rt) (w : World) (h : TrieAt w A v L) (hl : Rts w ao l) (hn : L.length + l.length ≤ 100000) (hb : ∀ r ∈ l, r.p.length ≤ 300000) :
    Calls Tryd.prog 19 #[.pointer v, .slice ao l.length cap] w fun e w' => ∃ b, e = .returned (.pointer (adr b)) ∧ TrieAt w' (fun x => A x ∨ w.heap.size ≤ x) (adr b) (L ++ l) ∧ St w 1 w' := by
  have HL := Lib.hid hl
  have HB := Lib.hid hb
  have HH := Lib.hid h
  -- what the loop begins with
  obtain ⟨vr0, hR0, hv⟩ : ∃ vr0, Rep w (L.length + 1) A vr0 (buildT segR L) ∧
      ((v = none ∧ vr0 = none ∧ L.length = 0) ∨ ∃ b, v = some ⟨b, 0, none⟩ ∧ w.cell? ⟨b, 0, none⟩ = some (.pointer vr0) ∧ w.cell? ⟨b, 1, none⟩ = some (.int .i64 (L.length : Nat))) := by
    rcases h with ⟨h1, h2⟩ | ⟨b, vr, h1, h2, h3, h4⟩
    · exact ⟨none, by rw [h2]; exact .nil, .inl ⟨h1, rfl, by rw [h2]; rfl⟩⟩
    · exact ⟨vr, h4, .inr ⟨b, h1, by simp [World.cell?, h3], by simp [World.cell?, h3]⟩⟩
  have HR0 := Lib.hid (hR0.more (Nat.le_refl _) (B := fun x => A x ∧ x < w.heap.size) fun b h1 h2 => ⟨h1, h2⟩)
  clear h hl hb hR0
  rcases hv with ⟨rfl, rfl, hL0⟩ | ⟨b0, rfl, c0, c1⟩
  · have HST := Lib.hid (WithAt.start (l := l) HR0.out)
    rw [hL0] at HST
    clear hL0
    go_enter Tryd.func19, Tryd.ntmps19
    go_wp2_with fail
    go_loopg [21] (l.length + 1) (fun gh i wr => WithAt w A L l gh i wr)
    case atStart => exact HST.out
    case round =>
      obtain ⟨k, vr, rfl, hk, rfl, hS, hR⟩ := hrel
      have HR := Lib.hid hR
      have HS := Lib.hid hS
      clear hR hS HST
      by_cases hlt : k < l.length
      · obtain ⟨g, off, rfl, d0, d1, d2⟩ := (HL.out.step HS.out).get hlt
        have hp3 := HB.out _ (List.getElem_mem hlt)
        have hbk := build_snoc (L ++ l.take k) l[k]
        have htk : L ++ l.take k ++ [l[k]] = L ++ l.take (k + 1) := by simp
        rw [htk] at hbk
        obtain ⟨x, hx⟩ : ∃ x, x = l[k] := ⟨_, rfl⟩
        rw [← hx] at d0 d1 d2 hp3 hbk
        have HBK := Lib.hid hbk
        have hpat := fun wq => pattern_any (ba x.p) wq (by rw [size_ba]; omega)
        rw [bl_ba] at hpat
        have e0 : wr.cell? ⟨w.heap.size, 0, none⟩ = some (.pointer vr) := HS.out.cell 0
        have hne := HS.out.lt
        have hlI : (k : Int) < (l.length : Int) := by omega
        clear hbk htk hx
        go_wp2_with (go_at_call 30; refine (hpat _).mono ?_; rintro e w3 ⟨ao3, cap3, rfl, hS3⟩; have HS3 := Lib.hid hS3; clear hS3)
        have hT := (HS.out.alloc (.cells #[.string (ba x.m), .string (ba x.p), .string (ba x.h)] 39)).rebase HS3.out
        have f0 : w3.cell? ⟨w.heap.size, 0, none⟩ = some (.pointer vr) := (hT.eq (SP.rot_last _ _ _)).cell 0
        have f2 := (hT.eq (SP.mul_left_comm _ _ _)).cell 0
        have f3 := (hT.eq (SP.mul_left_comm _ _ _)).cell 1
        have f4 := (hT.eq (SP.mul_left_comm _ _ _)).cell 2
        simp at f2 f3 f4
        have hcall := put_any (L.length + k + 1) (by omega) (by omega) x (segR x) (fun y hy => by have := segR_mem x y hy; omega) (Wof w A) w3.drew vr _ ao3 cap3 ((HR.out.step ((St.refl wr).alloc (.cells #[.string (ba x.m), .string (ba x.p), .string (ba x.h)] 39))).step HS3.out |>.step (St.refl w3).drew) ((HS3.out.eq (SP.mul_one _).symm).strs.step (St.refl w3).drew) (HS3.out.eq (SP.mul_one _).symm).slo_len.2.1 (HS3.out.eq (SP.mul_one _).symm).slo_len.2.2
        rw [← HBK.out] at hcall
        unfold segR at hcall
        have HT := Lib.hid (hT.eq (SP.rot_last _ _ _))
        clear hT hpat d0 d1 d2 e0 hne
        go_region_with (go_at_call 31; refine hcall.mono ?_; rintro e w4 ⟨b2, rfl, hR4, hS4⟩; have HR4 := Lib.hid hR4; have HS4 := Lib.hid hS4; have hx := (HT.out.drew.rebase hS4).eq (SP.one_mul _); have k0 : w4.cell? ⟨w.heap.size, 0, none⟩ = some (.pointer vr) := hx.cell 0; have k1 : w4.cell? ⟨w.heap.size, 1, none⟩ = some (.int .i64 (L.length + k : Nat)) := hx.cell 1; have kf := fun i => hx.free i; have HX := Lib.hid hx; unfold adr; clear hR4 hS4 hx)
        all_goals
          go_wp2_with fail
          go_roundg (l.length + 1 - (k + 1))
          case measure => omega
          case rel =>
            refine ⟨k + 1, adr b2, rfl, by omega, by go_num, ?_, ?_⟩
            · have hz : (.int .i64 ((L.length + (k + 1) : Nat) : Int) : Value) = .int .i64 ((L.length : Int) + (k : Int) + 1) := by go_num
              rw [hz]
              have h9 := (HX.out.setCell (i := 0) (.pointer (adr b2))).setCell (i := 1) (.int .i64 ((L.length : Int) + (k : Int) + 1))
              exact ((h9.eq (SP.mul_comm _ _)).drop).eq (SP.mul_one _).symm
            · have hw3 : w.heap.size < w3.drew.heap.size := by
                have h1 := HS3.out.size
                have h2 := HS.out.lt
                simp at h1 ⊢
                omega
              have hb : ¬ Wof w A w.heap.size := by rintro (h | h) <;> omega
              have h9 := HR4.out.more (Nat.le_refl _) (B := Wof w A) fun y hy _ => by
                rcases hy with hy | hy
                · exact hy
                · exact .inr (Nat.lt_of_lt_of_le hw3 hy)
              exact (h9.keep (keeps_set hb)).keep (keeps_set hb)
      · obtain rfl : k = l.length := by omega
        go_wp2_with fail
        go_ret
        have hR := HR.out
        rw [List.take_length] at hR
        have hR9 := hR.more (Nat.le_refl _) (B := fun x => A x ∨ w.heap.size ≤ x) fun y hy _ => by
          rcases hy with hy | hy
          · exact .inl hy.1
          · exact .inr (by omega)
        exact ⟨w.heap.size, rfl, .inr ⟨w.heap.size, vr, rfl, .inr (Nat.le_refl _), by rw [List.length_append]; exact HS.out.blk, by rw [List.length_append]; exact hR9⟩, HS.out.nil⟩
  · have hlt0 : b0 < w.heap.size := World.block_lt_of_cell? w _ c0
    have c0' : (w.alloc (.cells #[.pointer none, .int .i64 0] 74)).cell? ⟨b0, 0, none⟩ = some (.pointer vr0) := (((St.refl w).alloc _).below.cell (p := ⟨b0, 0, none⟩) hlt0).trans c0
    have c1' : (w.alloc (.cells #[.pointer none, .int .i64 0] 74)).cell? ⟨b0, 1, none⟩ = some (.int .i64 (L.length : Nat)) := (((St.refl w).alloc _).below.cell (p := ⟨b0, 1, none⟩) hlt0).trans c1
    clear c0 c1
    have HST := Lib.hid (WithAt.start (l := l) HR0.out)
    go_enter Tryd.func19, Tryd.ntmps19
    go_wp2_with fail
    go_loopg [21] (l.length + 1) (fun gh i wr => WithAt w A L l gh i wr)
    case atStart => exact HST.out
    case round =>
      obtain ⟨k, vr, rfl, hk, rfl, hS, hR⟩ := hrel
      have HR := Lib.hid hR
      have HS := Lib.hid hS
      clear hR hS HST
      by_cases hlt : k < l.length
      · obtain ⟨g, off, rfl, d0, d1, d2⟩ := (HL.out.step HS.out).get hlt
        have hp3 := HB.out _ (List.getElem_mem hlt)
        have hbk := build_snoc (L ++ l.take k) l[k]
        have htk : L ++ l.take k ++ [l[k]] = L ++ l.take (k + 1) := by simp
        rw [htk] at hbk
        obtain ⟨x, hx⟩ : ∃ x, x = l[k] := ⟨_, rfl⟩
        rw [← hx] at d0 d1 d2 hp3 hbk
        have HBK := Lib.hid hbk
        have hpat := fun wq => pattern_any (ba x.p) wq (by rw [size_ba]; omega)
        rw [bl_ba] at hpat
        have e0 : wr.cell? ⟨w.heap.size, 0, none⟩ = some (.pointer vr) := HS.out.cell 0
        have hne := HS.out.lt
        have hlI : (k : Int) < (l.length : Int) := by omega
        clear hbk htk hx
        go_wp2_with (go_at_call 30; refine (hpat _).mono ?_; rintro e w3 ⟨ao3, cap3, rfl, hS3⟩; have HS3 := Lib.hid hS3; clear hS3)
        have hT := (HS.out.alloc (.cells #[.string (ba x.m), .string (ba x.p), .string (ba x.h)] 39)).rebase HS3.out
        have f0 : w3.cell? ⟨w.heap.size, 0, none⟩ = some (.pointer vr) := (hT.eq (SP.rot_last _ _ _)).cell 0
        have f2 := (hT.eq (SP.mul_left_comm _ _ _)).cell 0
        have f3 := (hT.eq (SP.mul_left_comm _ _ _)).cell 1
        have f4 := (hT.eq (SP.mul_left_comm _ _ _)).cell 2
        simp at f2 f3 f4
        have hcall := put_any (L.length + k + 1) (by omega) (by omega) x (segR x) (fun y hy => by have := segR_mem x y hy; omega) (Wof w A) w3.drew vr _ ao3 cap3 ((HR.out.step ((St.refl wr).alloc (.cells #[.string (ba x.m), .string (ba x.p), .string (ba x.h)] 39))).step HS3.out |>.step (St.refl w3).drew) ((HS3.out.eq (SP.mul_one _).symm).strs.step (St.refl w3).drew) (HS3.out.eq (SP.mul_one _).symm).slo_len.2.1 (HS3.out.eq (SP.mul_one _).symm).slo_len.2.2
        rw [← HBK.out] at hcall
        unfold segR at hcall
        have HT := Lib.hid (hT.eq (SP.rot_last _ _ _))
        clear hT hpat d0 d1 d2 e0 hne
        go_region_with (go_at_call 31; refine hcall.mono ?_; rintro e w4 ⟨b2, rfl, hR4, hS4⟩; have HR4 := Lib.hid hR4; have HS4 := Lib.hid hS4; have hx := (HT.out.drew.rebase hS4).eq (SP.one_mul _); have k0 : w4.cell? ⟨w.heap.size, 0, none⟩ = some (.pointer vr) := hx.cell 0; have k1 : w4.cell? ⟨w.heap.size, 1, none⟩ = some (.int .i64 (L.length + k : Nat)) := hx.cell 1; have kf := fun i => hx.free i; have HX := Lib.hid hx; unfold adr; clear hR4 hS4 hx)
        all_goals
          go_wp2_with fail
          go_roundg (l.length + 1 - (k + 1))
          case measure => omega
          case rel =>
            refine ⟨k + 1, adr b2, rfl, by omega, by go_num, ?_, ?_⟩
            · have hz : (.int .i64 ((L.length + (k + 1) : Nat) : Int) : Value) = .int .i64 ((L.length : Int) + (k : Int) + 1) := by go_num
              rw [hz]
              have h9 := (HX.out.setCell (i := 0) (.pointer (adr b2))).setCell (i := 1) (.int .i64 ((L.length : Int) + (k : Int) + 1))
              exact ((h9.eq (SP.mul_comm _ _)).drop).eq (SP.mul_one _).symm
            · have hw3 : w.heap.size < w3.drew.heap.size := by
                have h1 := HS3.out.size
                have h2 := HS.out.lt
                simp at h1 ⊢
                omega
              have hb : ¬ Wof w A w.heap.size := by rintro (h | h) <;> omega
              have h9 := HR4.out.more (Nat.le_refl _) (B := Wof w A) fun y hy _ => by
                rcases hy with hy | hy
                · exact hy
                · exact .inr (Nat.lt_of_lt_of_le hw3 hy)
              exact (h9.keep (keeps_set hb)).keep (keeps_set hb)
      · obtain rfl : k = l.length := by omega
        go_wp2_with fail
        go_ret
        have hR := HR.out
        rw [List.take_length] at hR
        have hR9 := hR.more (Nat.le_refl _) (B := fun x => A x ∨ w.heap.size ≤ x) fun y hy _ => by
          rcases hy with hy | hy
          · exact .inl hy.1
          · exact .inr (by omega)
        exact ⟨w.heap.size, rfl, .inr ⟨w.heap.size, vr, rfl, .inr (Nat.le_refl _), by rw [List.length_append]; exact HS.out.blk, by rw [List.length_append]; exact hR9⟩, HS.out.nil⟩
end Go.Proofs.YtlmoifeinglaeaaDoor
