/- TrieStrong (layer 8): the walk. -/
import Derived.Test.YtlmoifeinglaeaaDoorFit8
import Derived.Deep.RegionLaw
namespace Go.Proofs.YtlmoifeinglaeaaDoor
open Go.RowKit
attribute [local go_sem ↓] Go.wp_at_zero Go.wp_at_succ
set_option linter.unusedVariables false

def stN : List (List UInt8) := [[47, 119, 47, 101, 110, 100], [47, 119, 47, 58, 120], [47, 119, 47, 42, 121], [47, 58, 97, 47, 101, 110, 100], [47, 42, 122]]
def stH : List (List UInt8) := [[103, 101, 116], [112, 117, 116], [108, 105, 115, 116], [119, 97, 108, 107], [104, 101, 97, 108, 116, 104]]
def stB (n k : Nat) : Bool := decide (2 < k) || n.testBit k
def stR (k : Nat) : Rt := ⟨gET, stN.getD k [], stH.getD k []⟩
def stL (n k : Nat) : List Rt := ((List.range k).filter (stB n)).map stR

theorem stL_succ (n k : Nat) : stL n (k + 1) = stL n k ++ if stB n k = true then [stR k] else [] := by
  unfold stL
  rw [List.range_succ, List.filter_append, List.map_append]
  congr 1
  by_cases h : stB n k = true <;> simp [h]
theorem stL_len (n k : Nat) : (stL n k).length ≤ k := by
  unfold stL
  rw [List.length_map]
  exact Nat.le_trans (List.length_filter_le _ _) (by simp)

theorem and7 (z : Int) : ∃ n : Nat, n < 8 ∧ bits .and .i64 z 7 = (n : Int) := by
  refine ⟨(BitVec.ofInt 64 z).toNat &&& 7, Nat.lt_of_le_of_lt Nat.and_le_right (by decide), ?_⟩
  have h : (BitVec.ofInt 64 z).toNat &&& 7 ≤ 7 := Nat.and_le_right
  have e : (BitVec.ofInt 64 z &&& BitVec.ofInt 64 7).toNat = (BitVec.ofInt 64 z).toNat &&& 7 := by rw [BitVec.toNat_and]; rfl
  show IntKind.i64.wrap (((BitVec.ofInt 64 z &&& BitVec.ofInt 64 7).toNat : Nat) : Int) = _
  rw [e]
  exact IntWalk.i64_in _ (by omega)

theorem shr_bit : ∀ n : Fin 8, ∀ k : Fin 5, (bits .and .i64 (((n.val : Nat) : Int) / 2 ^ k.val) 1 == 1) = n.val.testBit k.val := by decide +kernel
theorem and_bit1 : ∀ n : Fin 8, (bits .and .i64 ((n.val : Nat) : Int) 1 == 1) = n.val.testBit 0 := by decide +kernel
theorem and_bit2 : ∀ n : Fin 8, (bits .and .i64 ((n.val : Nat) : Int) 2 == 2) = n.val.testBit 1 := by decide +kernel
theorem and_bit4 : ∀ n : Fin 8, (bits .and .i64 ((n.val : Nat) : Int) 4 == 4) = n.val.testBit 2 := by decide +kernel

def eND : List UInt8 := [101, 110, 100]
def wantS (n : Nat) (e : Bool) : List UInt8 :=
  if n.testBit 0 && e then [103, 101, 116] else if n.testBit 1 then [112, 117, 116] else if n.testBit 2 then [108, 105, 115, 116] else if e then [119, 97, 108, 107] else [104, 101, 97, 108, 116, 104]

theorem segR_st : ∀ k : Fin 5, segR (stR k.val) = [[[119], eND], [[119], [58, 120]], [[119], [42, 121]], [[58, 97], eND], [[42, 122]]].getD k.val [] := by decide +kernel
theorem norm_st : ∀ k : Fin 5, norm (segR (stR k.val)) = [[Sg.w [119], Sg.w eND], [Sg.w [119], Sg.p], [Sg.w [119], Sg.r], [Sg.p, Sg.w eND], [Sg.r]].getD k.val [] := by decide +kernel
theorem strong_end : ∀ n : Fin 8, (matchL (stL n.val 5) gET [[119], eND]).h = wantS n.val true ∧ (matchL (stL n.val 5) gET [[119], eND]).ok = true := by decide +kernel

/-- The strongest one does not hang on a segment that no word of the list has. -/
theorem hits_other (n : Fin 8) (s : List UInt8) (hs : s ≠ []) (he : s ≠ eND) : hitsL segR (stL n.val 5) [[119], s] = hitsL segR (stL n.val 5) [[119], [0]] := by
  have hmem : ∀ r ∈ stL n.val 5, ∃ k : Fin 5, r = stR k.val := by
    intro r hr
    simp only [stL, List.mem_map, List.mem_filter, List.mem_range] at hr
    obtain ⟨k, ⟨hk, _⟩, rfl⟩ := hr
    exact ⟨⟨k, hk⟩, rfl⟩
  have hf : ∀ q : List Sg, (∀ k : Fin 5, norm (segR (stR k.val)) ≠ q) → (stL n.val 5).filter (fun r => decide (norm (segR r) = q)) = [] := by
    intro q hq
    rw [List.filter_eq_nil_iff]
    intro r hr
    obtain ⟨k, rfl⟩ := hmem r hr
    simpa using hq k
  have h1 : ∀ t : List UInt8, t ≠ eND → ∀ k : Fin 5, norm (segR (stR k.val)) ≠ [Sg.w [119], Sg.w t] := by
    intro t ht k
    rw [norm_st]
    obtain ⟨k, hk⟩ := k
    match k, hk with
    | 0, _ => simp; exact fun h => ht h.symm
    | 1, _ => simp
    | 2, _ => simp
    | 3, _ => simp
    | 4, _ => simp
  have h2 : ∀ t : List UInt8, t ≠ eND → ∀ k : Fin 5, norm (segR (stR k.val)) ≠ [Sg.p, Sg.w t] := by
    intro t ht k
    rw [norm_st]
    obtain ⟨k, hk⟩ := k
    match k, hk with
    | 0, _ => simp
    | 1, _ => simp
    | 2, _ => simp
    | 3, _ => simp; exact fun h => ht h.symm
    | 4, _ => simp
  have hz : ([0] : List UInt8) ≠ eND := by decide
  unfold hitsL
  simp only [cands, hs, if_false, List.cons_ne_self, List.map_cons, List.map_nil, List.cons_append, List.nil_append, List.flatten_cons]
  rw [hf _ (h1 s he), hf _ (h1 _ hz), hf _ (h2 s he), hf _ (h2 _ hz)]
theorem strong_zero : ∀ n : Fin 8, (matchL (stL n.val 5) gET [[119], [0]]).h = wantS n.val false ∧ (matchL (stL n.val 5) gET [[119], [0]]).ok = true := by decide +kernel
theorem match_hits (L : List Rt) (m : List UInt8) (l l' : List (List UInt8)) (h : hitsL segR L l = hitsL segR L l') : (matchL L m l).h = (matchL L m l').h ∧ (matchL L m l).ok = (matchL L m l').ok := by
  unfold matchL
  rw [h]
  cases (hitsL segR L l').find? fun r => decide (r.m = m) <;> exact ⟨rfl, rfl⟩
theorem strong_law (n : Nat) (hn : n < 8) (s : List UInt8) (hs : s ≠ []) : (matchL (stL n 5) gET [[119], s]).h = wantS n (decide (s = eND)) ∧ (matchL (stL n 5) gET [[119], s]).ok = true := by
  by_cases he : s = eND
  · subst he
    simpa using strong_end ⟨n, hn⟩
  · have h := match_hits (stL n 5) gET _ _ (hits_other ⟨n, hn⟩ s hs he)
    have h2 := strong_zero ⟨n, hn⟩
    rw [h.1, h.2, decide_eq_false he]
    exact h2

theorem st_p (k : Nat) (h : k < stN.length) : stN[k]'h = (stR k).p := by simp [stR, List.getD_eq_getElem?_getD, h]
theorem st_h (k : Nat) (h : k < stH.length) : stH[k]'h = (stR k).h := by simp [stR, List.getD_eq_getElem?_getD, h]

/-- The loop at its head. -/
def StrAt (W : World) (n : Nat) (gh : Nat) (o i : Value) (wr : World) : Prop :=
  ∃ (k : Nat) (ao : Option Addr) (cap : Nat), gh = 6 - k ∧ k ≤ 5 ∧ i = .int .i64 k ∧ o = .slice ao (stL n k).length cap ∧ St W (slo 39 3 ao (stL n k).length cap (rtsC (stL n k)) * 1) wr

theorem StrAt.next {W wr : World} {n k m cap : Nat} {ao : Option Addr} (hk : k < 5) (h : St W (slo 39 3 ao (stL n (k + 1)).length cap (rtsC (stL n (k + 1))) * 1) wr) (e : m = (stL n (k + 1)).length) :
    StrAt W n (6 - (k + 1)) (.slice ao m cap) (.int .i64 ((k : Int) + 1)) wr := ⟨k + 1, ao, cap, rfl, by omega, by go_num, by rw [e], h⟩

set_option maxRecDepth 100000 in
set_option maxHeartbeats 8000000 in
theorem strong_any (z : Int) (s : List UInt8) (w : World) (hg : HG w) :
    Calls Tryd.prog 4 #[.int .i64 z, .string (ba s)] w fun e w' => e = .returned (.bool true) ∧ St w 1 w' := by
  have HF := Lib.hid (fit8_any w hg)
  clear hg
  by_cases hs0 : s = []
  · subst hs0
    have t0 : (ba []).toList.isEmpty = true := by rw [toList_bl, bl_ba]; rfl
    go_enter Tryd.func4, Tryd.ntmps4
    go_wp2_with (go_at_call 18; refine HF.out.mono ?_; rintro e w1 ⟨rfl, hS1⟩; have HS1 := Lib.hid hS1; clear hS1)
    go_ret
    exact ⟨rfl, HS1.out⟩
  · have t0 : (ba s).toList.isEmpty = false := by rw [toList_bl, bl_ba]; cases s <;> simp_all
    have hsz := size_ba s
    by_cases hbig : 60 < s.length
    · have t1 : decide ((60 : Int) < ((ba s).size : Int)) = true := by rw [hsz]; simp; omega
      clear hs0
      go_enter Tryd.func4, Tryd.ntmps4
      go_wp2_with (go_at_call 18; refine HF.out.mono ?_; rintro e w1 ⟨rfl, hS1⟩; have HS1 := Lib.hid hS1; clear hS1)
      go_ret
      exact ⟨rfl, HS1.out⟩
    · have t1 : decide ((60 : Int) < ((ba s).size : Int)) = false := by rw [hsz]; simp; omega
      obtain ⟨n, hn8, hn⟩ := and7 z
      obtain ⟨hlaw, hok⟩ := strong_law n hn8 s hs0
      obtain ⟨i0, hi, hz0, hz1, hz2⟩ := info_parts info_route
      have HLAW := Lib.hid hlaw
      have HOK := Lib.hid hok
      have HN := Lib.hid hn
      clear hs0 hlaw hok hn
      go_enter Tryd.func4, Tryd.ntmps4
      go_wp2_with (go_at_call 18; refine HF.out.mono ?_; rintro e w1 ⟨rfl, hS1⟩; have HS1 := Lib.hid hS1; clear hS1)
      have hN := strs_built w1 stN 9 #[.string ⟨#[47, 119, 47, 101, 110, 100]⟩, .string ⟨#[47, 119, 47, 58, 120]⟩, .string ⟨#[47, 119, 47, 42, 121]⟩, .string ⟨#[47, 58, 97, 47, 101, 110, 100]⟩, .string ⟨#[47, 42, 122]⟩] rfl
      have hH := strs_built (w1.alloc (.cells #[.string ⟨#[47, 119, 47, 101, 110, 100]⟩, .string ⟨#[47, 119, 47, 58, 120]⟩, .string ⟨#[47, 119, 47, 42, 121]⟩, .string ⟨#[47, 58, 97, 47, 101, 110, 100]⟩, .string ⟨#[47, 42, 122]⟩] 9)) stH 9 #[.string ⟨#[103, 101, 116]⟩, .string ⟨#[112, 117, 116]⟩, .string ⟨#[108, 105, 115, 116]⟩, .string ⟨#[119, 97, 108, 107]⟩, .string ⟨#[104, 101, 97, 108, 116, 104]⟩] rfl
      have hS2 := ((St.refl w1).alloc (.cells #[.string ⟨#[47, 119, 47, 101, 110, 100]⟩, .string ⟨#[47, 119, 47, 58, 120]⟩, .string ⟨#[47, 119, 47, 42, 121]⟩, .string ⟨#[47, 58, 97, 47, 101, 110, 100]⟩, .string ⟨#[47, 42, 122]⟩] 9)).alloc (.cells #[.string ⟨#[103, 101, 116]⟩, .string ⟨#[112, 117, 116]⟩, .string ⟨#[108, 105, 115, 116]⟩, .string ⟨#[119, 97, 108, 107]⟩, .string ⟨#[104, 101, 97, 108, 116, 104]⟩] 9)
      have hz : (w1.alloc (.cells #[.string ⟨#[47, 119, 47, 101, 110, 100]⟩, .string ⟨#[47, 119, 47, 58, 120]⟩, .string ⟨#[47, 119, 47, 42, 121]⟩, .string ⟨#[47, 58, 97, 47, 101, 110, 100]⟩, .string ⟨#[47, 42, 122]⟩] 9)).heap.size = w1.heap.size + 1 := by simp
      rw [hz] at hH
      have hN2 := hN.step ((St.refl _).alloc (.cells #[.string ⟨#[103, 101, 116]⟩, .string ⟨#[112, 117, 116]⟩, .string ⟨#[108, 105, 115, 116]⟩, .string ⟨#[119, 97, 108, 107]⟩, .string ⟨#[104, 101, 97, 108, 116, 104]⟩] 9))
      have HNM := Lib.hid hN2
      have HHM := Lib.hid hH
      have HS2 := Lib.hid (HS1.out.rebase hS2).nil
      clear hN hH hS2 hz hN2
      rw [HN.out]
      generalize (w1.alloc (.cells #[.string ⟨#[47, 119, 47, 101, 110, 100]⟩, .string ⟨#[47, 119, 47, 58, 120]⟩, .string ⟨#[47, 119, 47, 42, 121]⟩, .string ⟨#[47, 58, 97, 47, 101, 110, 100]⟩, .string ⟨#[47, 42, 122]⟩] 9)).alloc (.cells #[.string ⟨#[103, 101, 116]⟩, .string ⟨#[112, 117, 116]⟩, .string ⟨#[108, 105, 115, 116]⟩, .string ⟨#[119, 97, 108, 107]⟩, .string ⟨#[104, 101, 97, 108, 116, 104]⟩] 9) = W at *
      generalize w1.heap.size + 1 = hb at *
      generalize w1.heap.size = nb at *
      have HAT := Lib.hid (show StrAt W n 6 (.slice none 0 0) (.int .i64 0) W from ⟨0, none, 0, rfl, by omega, rfl, rfl, (St.refl W).eq (by simp [stL, rtsC, slo_nil, SP.mul_one])⟩)
      go_loopg [7, 26] 6 (fun gh o i wr => StrAt W n gh o i wr)
      case atStart => exact HAT.out
      case round =>
        obtain ⟨k, ao, cap, rfl, hk, rfl, rfl, hP⟩ := hrel
        have hsl := stL_len n k
        have HP := Lib.hid hP
        clear hP
        by_cases hlt : k < 5
        · have hsn := stL_succ n k
          have hbit := shr_bit ⟨n, hn8⟩ ⟨k, hlt⟩
          simp only at hbit
          obtain ⟨g1, o1, e1, c1⟩ := (HNM.out.step HP.out).get (k := k) (by show k < 5; exact hlt)
          obtain ⟨g2, o2, e2, c2⟩ := (HHM.out.step HP.out).get (k := k) (by show k < 5; exact hlt)
          cases e1
          cases e2
          rw [Nat.zero_add] at c1 c2
          rw [st_p] at c1
          rw [st_h] at c2
          generalize hr : stR k = r at *
          have hrm : r.m = gET := by rw [← hr]; rfl
          have HRM := Lib.hid hrm
          have HSN := Lib.hid hsn
          clear hsn hr hrm HAT
          have hkI : (k : Int) < 5 := by omega
          cases hB : stB n k with
          | true =>
            rw [hB] at HSN
            have HST := Lib.hid ((HP.out.alloc (.cells #[.string ⟨#[71, 69, 84]⟩, .string (ba r.p), .string (ba r.h)] 39)).drew.eq (SP.mul_left_comm _ _ _))
            unfold stB at hB
            have HB := Lib.hid hB
            clear hB
            by_cases h2 : 2 < k
            · have t2 : (2 : Int) < (k : Int) := by omega
              clear hbit
              go_wp2_with fail
              go_region_law (refine step_append_slo rfl (.tmp 38) (.tmp 48) 30 rfl i0 (.agg #[.string ByteArray.empty, .string ByteArray.empty, .string ByteArray.empty]) 48 Tryd.underlying30 hi hz0 hz1 hz2 rfl (by decide) HST.out (by first | (simp [Act.eval]; done) | simp [Act.eval, Act.put]) ⟨wr.heap.size, 0, none⟩ 1 1 [.string ⟨#[71, 69, 84]⟩, .string (ba r.p), .string (ba r.h)] (by first | (simp [Act.eval]; done) | simp [Act.eval, Act.put]) rfl (cells_three wr _ _ _ _) (three_cell _ _ _) (by omega) (by unfold maxLen; omega) ?_; intro ao6 cap6 w6 hw6; have HX6 := Lib.hid hw6; clear hw6)
              all_goals
                go_wp2_with fail
                go_roundg (6 - (k + 1))
                case measure => omega
                case rel =>
                  refine StrAt.next hlt ?_ (by rw [show stL n (k + 1) = stL n k ++ [r] by simpa using HSN.out, List.length_append]; rfl)
                  have h6 := HX6.out
                  rw [show stL n (k + 1) = stL n k ++ [r] by simpa using HSN.out, List.length_append]
                  rw [show rtsC (stL n k ++ [r]) = rtsC (stL n k) ++ [.string ⟨#[71, 69, 84]⟩, .string (ba r.p), .string (ba r.h)] by simp [rtsC, Rt.cells, HRM.out]; rfl]
                  exact ((h6.eq (SP.mul_comm _ _)).drop).eq (SP.mul_one _).symm
            · have t2 : ¬ ((2 : Int) < (k : Int)) := by omega
              have hb : (bits .and .i64 ((n : Int) / 2 ^ k) 1 == 1) = true := by rw [hbit]; have := HB.out; simpa [h2] using this
              clear hbit
              go_wp2_with fail
              go_region_law (refine step_append_slo rfl (.tmp 38) (.tmp 48) 30 rfl i0 (.agg #[.string ByteArray.empty, .string ByteArray.empty, .string ByteArray.empty]) 48 Tryd.underlying30 hi hz0 hz1 hz2 rfl (by decide) HST.out (by first | (simp [Act.eval]; done) | simp [Act.eval, Act.put]) ⟨wr.heap.size, 0, none⟩ 1 1 [.string ⟨#[71, 69, 84]⟩, .string (ba r.p), .string (ba r.h)] (by first | (simp [Act.eval]; done) | simp [Act.eval, Act.put]) rfl (cells_three wr _ _ _ _) (three_cell _ _ _) (by omega) (by unfold maxLen; omega) ?_; intro ao6 cap6 w6 hw6; have HX6 := Lib.hid hw6; clear hw6)
              all_goals
                go_wp2_with fail
                go_roundg (6 - (k + 1))
                case measure => omega
                case rel =>
                  refine StrAt.next hlt ?_ (by rw [show stL n (k + 1) = stL n k ++ [r] by simpa using HSN.out, List.length_append]; rfl)
                  have h6 := HX6.out
                  rw [show stL n (k + 1) = stL n k ++ [r] by simpa using HSN.out, List.length_append]
                  rw [show rtsC (stL n k ++ [r]) = rtsC (stL n k) ++ [.string ⟨#[71, 69, 84]⟩, .string (ba r.p), .string (ba r.h)] by simp [rtsC, Rt.cells, HRM.out]; rfl]
                  exact ((h6.eq (SP.mul_comm _ _)).drop).eq (SP.mul_one _).symm
          | false =>
            rw [hB] at HSN
            have h2 : ¬ 2 < k := by intro h; simp [stB, h] at hB
            have t2 : ¬ ((2 : Int) < (k : Int)) := by omega
            have hb : (bits .and .i64 ((n : Int) / 2 ^ k) 1 == 1) = false := by rw [hbit]; simpa [stB, h2] using hB
            clear hB hbit
            go_wp2_with fail
            go_roundg (6 - (k + 1))
            case measure => omega
            case rel =>
              have e : stL n (k + 1) = stL n k := by rw [HSN.out]; simp
              refine ⟨k + 1, ao, cap, rfl, by omega, by go_num, by rw [e], by rw [e]; exact HP.out⟩
        · obtain rfl : k = 5 := by omega
          clear HNM HHM HAT hlt
          have hbd : ∀ r ∈ stL n 5, r.p.length ≤ 300000 := by
            intro r hr
            simp only [stL, List.mem_map, List.mem_filter, List.mem_range] at hr
            obtain ⟨j, ⟨hj, _⟩, rfl⟩ := hr
            have : ∀ j : Fin 5, (stR j.val).p.length ≤ 300000 := by decide +kernel
            exact this ⟨j, hj⟩
          have hw := with_any (fun _ => False) none [] ao cap (stL n 5) wr (.inl ⟨rfl, rfl⟩) HP.out.rts (by rw [List.length_nil]; omega) hbd
          have HBD := Lib.hid hbd
          have b1 := and_bit1 ⟨n, hn8⟩
          have b2 := and_bit2 ⟨n, hn8⟩
          have b4 := and_bit4 ⟨n, hn8⟩
          simp only at b1 b2 b4
          have b0 : (wantS n (decide (s = eND))) = (matchL (stL n 5) gET [[119], s]).h := HLAW.out.symm
          have HB1 := Lib.hid b1
          have HB2 := Lib.hid b2
          have HB4 := Lib.hid b4
          have HB0 := Lib.hid b0
          clear hbd b1 b2 b4 b0
          go_wp2_with fail
          refine hw.mono ?_
          rintro e w2 ⟨tb, rfl, hT, hS2⟩
          rw [List.nil_append] at hT
          have hm := match_any _ (some ⟨tb, 0, none⟩) (stL n 5) gET [[119], s] (some ⟨w2.heap.size, 0, none⟩) 2 (w2.alloc (.cells (strs [[119], s]).toArray 9)) (hT.step ((St.refl w2).alloc _)) (strs_built w2 _ _ _ rfl) (by simp) (by unfold maxLen; simp) (by simp [total]; omega) (by omega) HBD.out
          have HS2 := Lib.hid ((HS2.out.rebase HP.out |>.nil.rebase hS2).nil)
          generalize hM : matchL (stL n 5) gET [[119], s] = X at *
          have HX0 := Lib.hid hM
          obtain ⟨xh, xp, xa, xo⟩ := X
          have hok := HOK.out
          simp only at hok
          subst hok
          clear hT hS2 hw hM
          unfold adr
          go_wp2_with fail
          refine hm.mono ?_
          rintro e w3 ⟨pa, pc, aa, ac, P, rfl, hS3, -, -, -, -⟩
          have HS3 := Lib.hid (HS2.out.rebase ((St.refl w2).alloc (.cells (strs [[119], s]).toArray 9)) |>.nil.rebase hS3).nil
          clear hm hS3
          have te : (ba s).toList = s := by rw [toList_bl, bl_ba]
          have TE := Lib.hid te
          have tl : ∀ x : List UInt8, (ba x).toList = x := fun x => by rw [toList_bl, bl_ba]
          have TL := Lib.hid tl
          clear te tl
          cases h1 : n.testBit 0 <;> cases h2 : n.testBit 1 <;> cases h4 : n.testBit 2 <;> by_cases he : s = eND
          all_goals
            have q1 := HB1.out
            have q2 := HB2.out
            have q4 := HB4.out
            have hx := HB0.out
            rw [h1] at q1
            rw [h2] at q2
            rw [h4] at q4
            simp only [wantS, h1, h2, h4, he, decide_true, decide_false, Bool.and_true, Bool.and_false, if_true, if_false, Bool.false_eq_true] at hx
            subst hx
            clear h1 h2 h4
            have tt := TL.out [103, 101, 116]
            have tp := TL.out [112, 117, 116]
            have tls := TL.out [108, 105, 115, 116]
            have tw := TL.out [119, 97, 108, 107]
            have th := TL.out [104, 101, 97, 108, 116, 104]
            first
              | (have ts : (ba s).toList = [101, 110, 100] := TE.out.trans he
                 clear he
                 go_wp2_with fail
                 go_ret
                 exact ⟨rfl, (HS3.out.alloc _).nil⟩)
              | (have ts : ((ba s).toList == [101, 110, 100]) = false := by rw [beq_eq_false_iff_ne]; exact fun h => he (TE.out.symm.trans h)
                 clear he
                 go_wp2_with fail
                 go_ret
                 exact ⟨rfl, (HS3.out.alloc _).nil⟩)
end Go.Proofs.YtlmoifeinglaeaaDoor
